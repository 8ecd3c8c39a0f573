/- The law's frame, part 4. -/
import Derived.Test.YtgfpjekjhnkbfaaGreatDoorZ3R
open Array renaming mem_of_getElem?->Hw,mem_toList_iff->KP
open Go.OpenSpec renaming ofChange->rU
open Go.Proofs.Tryz renaming checked->Pj,f3->Kr,func3->H0,prog->aL,underlying407->Ch,underlying409->Ci,underlying58->rV,underlying9->fZ
set_option maxRecDepth 100000
namespace Go.Proofs.YtgfpjekjhnkbfaaGreatDoor.fnExactRunDesk
open Go Go.Am Go.Proofs
open Go.ChangeShapes Go.WideShapes Go.ChangeAt Go.RowKit
theorem lifted(os : Os)(started : os.Started)(H : Type)(enc : TypeId × Value -> H) :
    ReturnsInHanded {} Pj os 3 .any (λw args=>(Rows.fnExactRunDeskSpec.pre enc aL Kr Rows.fnExactRunDeskRow.domain false w args /\ laidMetH aL Rows.fnExactRunDeskRow.laid w) /\ sizedMet enc aL Kr (rU Rows.fnExactRunDeskSpec) false w args) (Rows.fnExactRunDeskSpec.post enc aL Kr false true false false) :=
  TZ (C:=Pj) own started (by kernel_rfl) H0
    (ChangeSpec.witness_shaped (enc:=enc) (C:=Pj) (os:=os) (X:=λw _=>laidMetH aL Rows.fnExactRunDeskRow.laid w) false (laidWorld os) #[.string .empty] 8 rfl (World.shaped_of_RefB (by kernel_rfl) (by kernel_rfl)) (by kernel_rfl) (by kernel_rfl) (by kernel_rfl) (laid_met os _))
    laidOut (by kernel_rfl) [.str] (by kernel_rfl) (tb:=4) rfl Tryz.underlying4 rfl
    (λds h=>by
      match ds, h with
      | [d0], _=>exact⟨rfl, rfl, rfl⟩)
    (λW hs h=>ginv W hs (has3 h) (has4 h) (has5 h)) con
end Go.Proofs.YtgfpjekjhnkbfaaGreatDoor.fnExactRunDesk
