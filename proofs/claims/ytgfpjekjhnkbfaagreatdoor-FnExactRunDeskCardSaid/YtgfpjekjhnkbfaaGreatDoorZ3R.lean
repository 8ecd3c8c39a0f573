/- The law's frame, part 3. -/
import Derived.Test.YtgfpjekjhnkbfaaGreatDoorZ3Q
open Array renaming mem_of_getElem?->Hw,mem_toList_iff->KP
open Go.OpenSpec renaming ofChange->rU
open Go.Proofs.Tryz renaming checked->Pj,f3->Kr,func3->H0,prog->aL,underlying407->Ch,underlying409->Ci,underlying58->rV,underlying9->fZ
set_option maxRecDepth 100000
namespace Go.Proofs.YtgfpjekjhnkbfaaGreatDoor.fnExactRunDesk
open Go Go.Am Go.Proofs
open Go.ChangeShapes Go.WideShapes Go.ChangeAt Go.RowKit
theorem errStar : "*" ++ "errors.errorString" = "*errors.errorString" := by decide
theorem errRow(u : TypeId)(h : aL.typeName? 3 u = some "*errors.errorString") : u = 407 :=
  typeName_ptr_named (nm := "errors.errorString") (by rw [errStar]; kernel_rfl) (by kernel_rfl) (by decide) u (by rw [errStar]; exact h)
theorem has3{W:World}(h:laidMetH aL Rows.fnExactRunDeskRow.laid W):yR W 3 (.ifc):=by
  rw[MakeChecks.laidMetH_plain _ _ _ (by kernel_rfl)]at h
  exact SX (i := 5) (name := "strconv.ErrSyntax") (text := [105, 110, 118, 97, 108, 105, 100, 32, 115, 121, 110, 116, 97, 120]) h (by kernel_rfl) (by kernel_rfl) (by kernel_rfl) rV errRow Ch Ci rfl rfl fZ (by kernel_rfl) (by kernel_rfl)
theorem has4{W:World}(h:laidMetH aL Rows.fnExactRunDeskRow.laid W):yR W 4 (.ifc):=by
  rw[MakeChecks.laidMetH_plain _ _ _ (by kernel_rfl)]at h
  exact SX (i := 4) (name := "strconv.ErrRange") (text := [118, 97, 108, 117, 101, 32, 111, 117, 116, 32, 111, 102, 32, 114, 97, 110, 103, 101]) h (by kernel_rfl) (by kernel_rfl) (by kernel_rfl) rV errRow Ch Ci rfl rfl fZ (by kernel_rfl) (by kernel_rfl)
theorem has5{W:World}(h:laidMetH aL Rows.fnExactRunDeskRow.laid W):yR W 5 (.tab .u64 Lib.pow10Tab):=by
  rw[MakeChecks.laidMetH_plain _ _ _ (by kernel_rfl)]at h
  exact yR.ofTab (name := "internal/strconv.uint64pow10") (by kernel_rfl) (aFo (g := 5) (i := 2) (t := 411) (e := 328) (n := 20) h (by kernel_rfl) (by kernel_rfl) (by kernel_rfl) Tryz.underlying411 Tryz.underlying328 (by kernel_rfl) (by kernel_rfl))
end Go.Proofs.YtgfpjekjhnkbfaaGreatDoor.fnExactRunDesk
