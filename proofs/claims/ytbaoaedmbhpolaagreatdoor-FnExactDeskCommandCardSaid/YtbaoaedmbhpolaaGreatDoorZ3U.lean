/- The law's frame, part 5. -/
import Derived.Test.YtbaoaedmbhpolaaGreatDoorZ3P
open Array renaming mem_of_getElem?->IE,mem_toList_iff->K8
open Go.OpenSpec renaming ofChange->sL
open Go.Proofs.Tryz renaming checked->QV,f3->LN,func3->H7,prog->aN,underlying268->rI,underlying486->Cz,underlying488->DA,underlying9->gO
set_option maxRecDepth 100000
namespace Go.Proofs.YtbaoaedmbhpolaaGreatDoor.fnExactDeskCommand
open Go Go.Am Go.Proofs
open Go.ChangeShapes Go.WideShapes Go.ChangeAt Go.RowKit
theorem errStar : "*" ++ "errors.errorString" = "*errors.errorString" := by decide
theorem errRow(u : TypeId)(h : aN.typeName? 3 u = some "*errors.errorString") : u = 486 :=
  typeName_ptr_named (nm := "errors.errorString") (by rw [errStar]; kernel_rfl) (by kernel_rfl) (by decide) u (by rw [errStar]; exact h)
theorem has1{W:World}(h:laidMetH aN Rows.fnExactDeskCommandRow.laid W):zH W 1 (.ifc):=by
  rw[MakeChecks.laidMetH_plain _ _ _ (by kernel_rfl)]at h
  exact TA (i := 2) (name := "strconv.ErrSyntax") (text := [105, 110, 118, 97, 108, 105, 100, 32, 115, 121, 110, 116, 97, 120]) h (by kernel_rfl) (by kernel_rfl) (by kernel_rfl) rI errRow Cz DA rfl rfl gO (by kernel_rfl) (by kernel_rfl)
theorem has2{W:World}(h:laidMetH aN Rows.fnExactDeskCommandRow.laid W):zH W 2 (.ifc):=by
  rw[MakeChecks.laidMetH_plain _ _ _ (by kernel_rfl)]at h
  exact TA (i := 3) (name := "strconv.ErrRange") (text := [118, 97, 108, 117, 101, 32, 111, 117, 116, 32, 111, 102, 32, 114, 97, 110, 103, 101]) h (by kernel_rfl) (by kernel_rfl) (by kernel_rfl) rI errRow Cz DA rfl rfl gO (by kernel_rfl) (by kernel_rfl)
theorem has5{W:World}(h:laidMetH aN Rows.fnExactDeskCommandRow.laid W):zH W 5 (.tab .u64 Lib.pow10Tab):=by
  rw[MakeChecks.laidMetH_plain _ _ _ (by kernel_rfl)]at h
  exact zH.ofTab (name := "internal/strconv.uint64pow10") (by kernel_rfl) (we (g := 5) (i := 4) (t := 490) (e := 403) (n := 20) h (by kernel_rfl) (by kernel_rfl) (by kernel_rfl) Tryz.underlying490 Tryz.underlying403 (by kernel_rfl) (by kernel_rfl))
end Go.Proofs.YtbaoaedmbhpolaaGreatDoor.fnExactDeskCommand
