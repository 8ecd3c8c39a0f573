/- The law's frame, part 3. -/
import Derived.Test.YtmhpnodnljbnjaaGreatDoorZ3H
open Array renaming mem_of_getElem?->Ei,mem_toList_iff->GX
open Go.OpenSpec renaming ofChange->pX
open Go.Proofs.Tryz renaming checked->Lc,f3->H0,func3->EP,prog->aL,underlying406->Ax,underlying408->Ay,underlying64->pY,underlying9->fN
set_option maxRecDepth 100000
namespace Go.Proofs.YtmhpnodnljbnjaaGreatDoor.fnConsole
open Go Go.Am Go.Proofs
open Go.ChangeShapes Go.WideShapes Go.ChangeAt Go.RowKit
theorem errStar : "*" ++ "errors.errorString" = "*errors.errorString" := by decide
theorem errRow (u : TypeId) (h : aL.typeName? 3 u = some "*errors.errorString") : u = 406 :=
  typeName_ptr_named (nm := "errors.errorString") (by rw [errStar]; kernel_rfl) (by kernel_rfl) (by decide) u (by rw [errStar]; exact h)
theorem has1 {W : World} (h : laidMetH aL Rows.fnConsoleRow.laid W) : vS W 1 (.ifc) := by
  rw [MakeChecks.laidMetH_plain _ _ _ (by kernel_rfl)] at h
  exact NY (i := 5) (name := "strconv.ErrSyntax") (text := [105, 110, 118, 97, 108, 105, 100, 32, 115, 121, 110, 116, 97, 120]) h (by kernel_rfl) (by kernel_rfl) (by kernel_rfl) pY errRow Ax Ay rfl rfl fN (by kernel_rfl) (by kernel_rfl)
theorem has2 {W : World} (h : laidMetH aL Rows.fnConsoleRow.laid W) : vS W 2 (.ifc) := by
  rw [MakeChecks.laidMetH_plain _ _ _ (by kernel_rfl)] at h
  exact NY (i := 4) (name := "strconv.ErrRange") (text := [118, 97, 108, 117, 101, 32, 111, 117, 116, 32, 111, 102, 32, 114, 97, 110, 103, 101]) h (by kernel_rfl) (by kernel_rfl) (by kernel_rfl) pY errRow Ax Ay rfl rfl fN (by kernel_rfl) (by kernel_rfl)
theorem has5 {W : World} (h : laidMetH aL Rows.fnConsoleRow.laid W) : vS W 5 (.tab .u64 Lib.pow10Tab) := by
  rw [MakeChecks.laidMetH_plain _ _ _ (by kernel_rfl)] at h
  exact vS.ofTab (name := "internal/strconv.uint64pow10") (by kernel_rfl) (YY (g := 5) (i := 2) (t := 410) (e := 102) (n := 20) h (by kernel_rfl) (by kernel_rfl) (by kernel_rfl) Tryz.underlying410 Tryz.underlying102 (by kernel_rfl) (by kernel_rfl))
end Go.Proofs.YtmhpnodnljbnjaaGreatDoor.fnConsole
