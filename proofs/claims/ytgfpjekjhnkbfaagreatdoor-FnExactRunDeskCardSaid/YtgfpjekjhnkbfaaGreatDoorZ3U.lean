/- The law's frame, part 5. -/
import Derived.Test.YtgfpjekjhnkbfaaGreatDoorZ3S
open Array renaming mem_of_getElem?->Hw,mem_toList_iff->KP
open Go.OpenSpec renaming ofChange->rU
open Go.Proofs.Tryz renaming checked->Pj,f3->Kr,func3->H0,prog->aL,underlying407->Ch,underlying409->Ci,underlying58->rV,underlying9->fZ
set_option maxRecDepth 100000
namespace Go.Proofs.YtgfpjekjhnkbfaaGreatDoor.fnExactRunDesk
open Go Go.Am Go.Proofs
open Go.ChangeShapes Go.WideShapes Go.ChangeAt Go.RowKit
theorem kFun:aL.funcNamed Rows.fnExactRunDeskRow.func = some 3:=by kernel_rfl
theorem kMap:mapsRowed aL = true:=by kernel_rfl
theorem kIn:(Rows.fnExactRunDeskRow.inPlace == aL.inPlace 3) = true:=by kernel_rfl
theorem kUn:(Rows.fnExactRunDeskRow.unfollowed == aL.unfollowed 3) = true:=by kernel_rfl
theorem kRec:(Rows.fnExactRunDeskRow.recurses == aL.recurses 3) = true:=by kernel_rfl
theorem kNam:(Rows.fnExactRunDeskRow.named == aL.varsNamed 3) = true:=by kernel_rfl
theorem kKey:(Rows.fnExactRunDeskRow.plainKeys == aL.plainKeys) = true:=by kernel_rfl
theorem kStop:aL.stopsHeard = true:=by kernel_rfl
theorem kEnt:aL.mayEnter = true:=by kernel_rfl
theorem closed:joinedFacts aL 3 Kr Rows.fnExactRunDeskSpec Rows.fnExactRunDeskRow = true:=by
  unfold joinedFacts
  rw[laidOut, kMap, kIn, kUn, kRec, kNam, kKey, kStop, kEnt]
  kernel_rfl
theorem over:Rows.fnExactRunDeskRow.holds Tryz.pinned (rU Rows.fnExactRunDeskSpec) :=
  OpenClaim.holds_of_wide 3 Kr rfl rfl rfl rfl rfl rfl rfl ⟨rfl, rfl, rfl, rfl, rfl⟩ rfl rfl rfl rfl rfl kFun H0 closed
    (of_decide_eq_true (by kernel_rfl)) (by unfold Func.isWrapper; first | (rw[π (by decide +kernel)]; kernel_rfl) | (rw[ν (by decide +kernel)]; exact⟨rfl, rfl⟩))
    (λos started H enc _=>lifted os started H enc)
end Go.Proofs.YtgfpjekjhnkbfaaGreatDoor.fnExactRunDesk
