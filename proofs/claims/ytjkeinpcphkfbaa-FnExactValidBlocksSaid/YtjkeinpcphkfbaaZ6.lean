/- ValidBlocks: whatever the arguments, within the size that the law sets, the program answers as the specification says. -/
import Derived.Test.YtjkeinpcphkfbaaZ6A
import Derived.Test.YtjkeinpcphkfbaaZ6B
import Derived.Test.YtjkeinpcphkfbaaZ6C
import Derived.Test.YtjkeinpcphkfbaaRows
import Derived.WalkKit
import Derived.ProofKit
import Derived.OpenShut
set_option linter.unusedVariables false
set_option maxRecDepth 100000
namespace Go.Proofs.Ytjkeinpcphkfbaa.fnExactValidBlocks
open Go Go.Am Go.Proofs
open Go.ChangeShapes Go.WideShapes Go.ChangeAt Go.RowKit

theorem own : ownKnob Try.prog.godebug = none := by kernel_rfl
theorem laidOut : laidOutB Try.prog = true := by kernel_rfl

theorem con : Contract Try.prog 6 (lawSpec [.sl (.cons .str (.cons .str (.cons .str .unit)))]) :=
  Contract.says con6 fun ⟨x0, _⟩ _ hw => by
    have h := law6 x0 (hw.1)
    exact ⟨h.1, by show [(⟨.bool, g6_0 x0⟩ : Dyn)] = _; rw [h.2]⟩

theorem lifted (os : Os) (started : os.Started) (H : Type) (enc : TypeId × Value → H) :
    ReturnsInHanded {} Try.checked os 6 .any (Rows.fnExactValidBlocksSpec.pre6 enc Try.prog Try.f6 Rows.fnExactValidBlocksRow.domain false) (Rows.fnExactValidBlocksSpec.post enc Try.prog Try.f6 false true false false) :=
  law_lifted (C := Try.checked) own started (by kernel_rfl) Try.func6
    (ChangeSpec.witness6 (enc := enc) (C := Try.checked) false ⟨#[], #[.slice none 0 0], []⟩ 8 (by kernel_rfl) (by kernel_rfl) (by kernel_rfl) (by kernel_rfl))
    laidOut (by kernel_rfl) [.sl (.cons .str (.cons .str (.cons .str .unit)))] (by kernel_rfl) (tb := 4) rfl Try.underlying4 rfl
    (fun ds h => by
      match ds, h with
      | [d0], _ => exact ⟨rfl, rfl, rfl⟩)
    con

theorem over : Rows.fnExactValidBlocksRow.holds Try.pinned (OpenSpec.ofChange Rows.fnExactValidBlocksSpec) :=
  OpenClaim.holds_of_wide 6 Try.f6 rfl rfl rfl rfl rfl rfl rfl ⟨rfl, rfl, rfl, rfl, rfl⟩ rfl rfl rfl rfl rfl (by kernel_rfl) Try.func6 (by kernel_rfl)
    (of_decide_eq_true (by kernel_rfl)) (by unfold Func.isWrapper; first | (rw [if_pos (by decide +kernel)]; kernel_rfl) | (rw [if_neg (by decide +kernel)]; exact ⟨rfl, rfl⟩))
    (fun os started H enc _ => lifted os started H enc)

theorem proved : Rows.FnExactValidBlocksSaid := over
#print axioms proved
end Go.Proofs.Ytjkeinpcphkfbaa.fnExactValidBlocks
