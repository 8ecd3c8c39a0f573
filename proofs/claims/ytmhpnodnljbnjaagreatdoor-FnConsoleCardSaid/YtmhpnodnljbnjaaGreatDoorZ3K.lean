/- The law's frame, part 5. -/
import Derived.Test.YtmhpnodnljbnjaaGreatDoorZ3J
open Array renaming mem_of_getElem?->Ei,mem_toList_iff->GX
open Go.OpenSpec renaming ofChange->pX
open Go.Proofs.Tryz renaming checked->Lc,f3->H0,func3->EP,prog->aL,underlying406->Ax,underlying408->Ay,underlying64->pY,underlying9->fN
set_option maxRecDepth 100000
namespace Go.Proofs.YtmhpnodnljbnjaaGreatDoor.fnConsole
open Go Go.Am Go.Proofs
open Go.ChangeShapes Go.WideShapes Go.ChangeAt Go.RowKit
theorem kFun : aL.funcNamed Rows.fnConsoleRow.func = some 3 := by kernel_rfl
theorem kMap : mapsRowed aL = true := by kernel_rfl
theorem kIn : (Rows.fnConsoleRow.inPlace == aL.inPlace 3) = true := by kernel_rfl
theorem kUn : (Rows.fnConsoleRow.unfollowed == aL.unfollowed 3) = true := by kernel_rfl
theorem kRec : (Rows.fnConsoleRow.recurses == aL.recurses 3) = true := by kernel_rfl
theorem kNam : (Rows.fnConsoleRow.named == aL.varsNamed 3) = true := by kernel_rfl
theorem kKey : (Rows.fnConsoleRow.plainKeys == aL.plainKeys) = true := by kernel_rfl
theorem kStop : aL.stopsHeard = true := by kernel_rfl
theorem kEnt : aL.mayEnter = true := by kernel_rfl
theorem closed : joinedFacts aL 3 H0 Rows.fnConsoleSpec Rows.fnConsoleRow = true := by
  unfold joinedFacts
  rw [laidOut, kMap, kIn, kUn, kRec, kNam, kKey, kStop, kEnt]
  kernel_rfl
theorem over : Rows.fnConsoleRow.holds Tryz.pinned (pX Rows.fnConsoleSpec) :=
  OpenClaim.holds_of_wide 3 H0 rfl rfl rfl rfl rfl rfl rfl ⟨rfl, rfl, rfl, rfl, rfl⟩ rfl rfl rfl rfl rfl kFun EP closed
    (of_decide_eq_true (by kernel_rfl)) (by unfold Func.isWrapper; first | (rw [if_pos (by decide +kernel)]; kernel_rfl) | (rw [if_neg (by decide +kernel)]; exact ⟨rfl, rfl⟩))
    (λos started H enc _ => lifted os started H enc)
end Go.Proofs.YtmhpnodnljbnjaaGreatDoor.fnConsole
