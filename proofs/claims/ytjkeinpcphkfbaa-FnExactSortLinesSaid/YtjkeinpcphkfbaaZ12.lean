/- SortLines: whatever the arguments, within the size that the law sets, the program answers as the specification says. -/
import Derived.Test.YtjkeinpcphkfbaaZ12A
import Derived.Test.YtjkeinpcphkfbaaZ12B
import Derived.Test.YtjkeinpcphkfbaaZ12C
import Derived.Test.YtjkeinpcphkfbaaRows
import Derived.WalkKit
import Derived.ProofKit
import Derived.OpenShut
set_option linter.unusedVariables false
set_option maxRecDepth 100000
namespace Go.Proofs.Ytjkeinpcphkfbaa.fnExactSortLines
open Go Go.Am Go.Proofs
open Go.ChangeShapes Go.WideShapes Go.ChangeAt Go.RowKit

theorem own : ownKnob Try.prog.godebug = none := by kernel_rfl
theorem laidOut : laidOutB Try.prog = true := by kernel_rfl

theorem con : Contract Try.prog 12 (lawSpec [.sl .str]) :=
  Contract.says con12 fun ⟨x0, _⟩ _ hw => by
    have h := law12 x0 (hw.1)
    exact ⟨h.1, by show [(⟨.bool, g12_0 x0⟩ : Dyn)] = _; rw [h.2]⟩

theorem lifted (os : Os) (started : os.Started) (H : Type) (enc : TypeId × Value → H) :
    ReturnsInHanded {} Try.checked os 12 .any (Rows.fnExactSortLinesSpec.pre6 enc Try.prog Try.f12 Rows.fnExactSortLinesRow.domain false) (Rows.fnExactSortLinesSpec.post enc Try.prog Try.f12 false true false false) :=
  law_lifted (C := Try.checked) own started (by kernel_rfl) Try.func12
    (ChangeSpec.witness6 (enc := enc) (C := Try.checked) false ⟨#[], #[.slice none 0 0], []⟩ 8 (by kernel_rfl) (by kernel_rfl) (by kernel_rfl) (by kernel_rfl))
    laidOut (by kernel_rfl) [.sl .str] (by kernel_rfl) (tb := 4) rfl Try.underlying4 rfl
    (fun ds h => by
      match ds, h with
      | [d0], _ => exact ⟨rfl, rfl, rfl⟩)
    ginv con

theorem over : Rows.fnExactSortLinesRow.holds Try.pinned (OpenSpec.ofChange Rows.fnExactSortLinesSpec) :=
  OpenClaim.holds_of_wide 12 Try.f12 rfl rfl rfl rfl rfl rfl rfl ⟨rfl, rfl, rfl, rfl, rfl⟩ rfl rfl rfl rfl rfl (by kernel_rfl) Try.func12 (by kernel_rfl)
    (of_decide_eq_true (by kernel_rfl)) (by unfold Func.isWrapper; first | (rw [if_pos (by decide +kernel)]; kernel_rfl) | (rw [if_neg (by decide +kernel)]; exact ⟨rfl, rfl⟩))
    (fun os started H enc _ => lifted os started H enc)

theorem proved : Rows.FnExactSortLinesSaid := over
#print axioms proved
end Go.Proofs.Ytjkeinpcphkfbaa.fnExactSortLines
