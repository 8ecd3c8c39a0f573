/- BarLines: whatever the arguments, within the size that the law sets, the program answers as the specification says. -/
import Derived.Test.YtjkeinpcphkfbaaZ7A
import Derived.Test.YtjkeinpcphkfbaaZ7B
import Derived.Test.YtjkeinpcphkfbaaZ7C
import Derived.Test.YtjkeinpcphkfbaaRows
import Derived.WalkKit
import Derived.ProofKit
import Derived.OpenShut
set_option linter.unusedVariables false
set_option maxRecDepth 100000
namespace Go.Proofs.Ytjkeinpcphkfbaa.fnExactBarLines
open Go Go.Am Go.Proofs
open Go.ChangeShapes Go.WideShapes Go.ChangeAt Go.RowKit

theorem own : ownKnob Try.prog.godebug = none := by kernel_rfl
theorem laidOut : laidOutB Try.prog = true := by kernel_rfl

theorem con : Contract Try.prog 7 (lawSpec [.sl (.int .i64), .int .i64]) :=
  Contract.says con7 fun ⟨x0, x1, _⟩ _ hw => by
    have h := law7 x0 x1 (hw.1) (hw.2.1)
    exact ⟨h.1, by show [(⟨.bool, g7_0 x0 x1⟩ : Dyn)] = _; rw [h.2]⟩

theorem lifted (os : Os) (started : os.Started) (H : Type) (enc : TypeId × Value → H) :
    ReturnsInHanded {} Try.checked os 7 .any (Rows.fnExactBarLinesSpec.pre6 enc Try.prog Try.f7 Rows.fnExactBarLinesRow.domain false) (Rows.fnExactBarLinesSpec.post enc Try.prog Try.f7 false true false false) :=
  law_lifted (C := Try.checked) own started (by kernel_rfl) Try.func7
    (ChangeSpec.witness6 (enc := enc) (C := Try.checked) false ⟨#[], #[.slice none 0 0, .int .i64 0], []⟩ 8 (by kernel_rfl) (by kernel_rfl) (by kernel_rfl) (by kernel_rfl))
    laidOut (by kernel_rfl) [.sl (.int .i64), .int .i64] (by kernel_rfl) (tb := 4) rfl Try.underlying4 rfl
    (fun ds h => by
      match ds, h with
      | [d0, d1], _ => exact ⟨rfl, rfl, rfl⟩)
    ginv con

theorem over : Rows.fnExactBarLinesRow.holds Try.pinned (OpenSpec.ofChange Rows.fnExactBarLinesSpec) :=
  OpenClaim.holds_of_wide 7 Try.f7 rfl rfl rfl rfl rfl rfl rfl ⟨rfl, rfl, rfl, rfl, rfl⟩ rfl rfl rfl rfl rfl (by kernel_rfl) Try.func7 (by kernel_rfl)
    (of_decide_eq_true (by kernel_rfl)) (by unfold Func.isWrapper; first | (rw [if_pos (by decide +kernel)]; kernel_rfl) | (rw [if_neg (by decide +kernel)]; exact ⟨rfl, rfl⟩))
    (fun os started H enc _ => lifted os started H enc)

theorem proved : Rows.FnExactBarLinesSaid := over
#print axioms proved
end Go.Proofs.Ytjkeinpcphkfbaa.fnExactBarLines
