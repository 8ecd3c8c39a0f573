/- The law's frame, part 6. -/
import Derived.Test.YtbaoaedmbhpolaaGreatDoorZ3U
open Array renaming mem_of_getElem?->IE,mem_toList_iff->K8
open Go.OpenSpec renaming ofChange->sL
open Go.Proofs.Tryz renaming checked->QV,f3->LN,func3->H7,prog->aN,underlying268->rI,underlying486->Cz,underlying488->DA,underlying9->gO
set_option maxRecDepth 100000
namespace Go.Proofs.YtbaoaedmbhpolaaGreatDoor.fnExactDeskCommand
open Go Go.Am Go.Proofs
open Go.ChangeShapes Go.WideShapes Go.ChangeAt Go.RowKit
theorem lifted(os : Os)(started : os.Started)(H : Type)(enc : TypeId × Value -> H) :
    ReturnsInHanded {} QV os 3 .any (λw args=>(Rows.fnExactDeskCommandSpec.pre enc aN LN Rows.fnExactDeskCommandRow.domain false w args /\ laidMetH aN Rows.fnExactDeskCommandRow.laid w) /\ sizedMet enc aN LN (sL Rows.fnExactDeskCommandSpec) false w args) (Rows.fnExactDeskCommandSpec.post enc aN LN false true false false) :=
  Tf (C:=QV) own started (by kernel_rfl) H7
    (wit os H enc)
    laidOut (by kernel_rfl) [.cons (.sl eC) YA1, .str] (by kernel_rfl) (tb:=4) rfl Tryz.underlying4 rfl
    (λds h=>by
      match ds, h with
      | [d0, d1], _=>exact⟨rfl, rfl, rfl⟩)
    (λW hs h=>ginv W hs (has1 h) (has2 h) (has5 h)) con
end Go.Proofs.YtbaoaedmbhpolaaGreatDoor.fnExactDeskCommand
