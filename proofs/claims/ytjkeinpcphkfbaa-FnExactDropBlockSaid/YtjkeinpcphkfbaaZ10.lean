/- DropBlock: whatever the arguments, within the size that the law sets, the program answers as the specification says. -/
import Derived.Test.YtjkeinpcphkfbaaZ10A
import Derived.Test.YtjkeinpcphkfbaaZ10B
import Derived.Test.YtjkeinpcphkfbaaZ10C
import Derived.Test.YtjkeinpcphkfbaaZ10D
import Derived.Test.YtjkeinpcphkfbaaRows
import Derived.WalkKit
import Derived.ProofKit
import Derived.OpenShut
set_option linter.unusedVariables false
set_option maxRecDepth 100000
namespace Go.Proofs.Ytjkeinpcphkfbaa.fnExactDropBlock
open Go Go.Am Go.Proofs
open Go.ChangeShapes Go.WideShapes Go.ChangeAt Go.RowKit

theorem own : ownKnob Try.prog.godebug = none := by kernel_rfl
theorem laidOut : laidOutB Try.prog = true := by kernel_rfl

theorem con : Contract Try.prog 10 (lawSpec [.sl (.cons .str (.cons .str (.cons .str .unit))), .str, .str]) :=
  Contract.says con10 fun ⟨x0, x1, x2, _⟩ _ hw => by
    have h := law10 x0 x1 x2 (hw.1) (hw.2.1) (hw.2.2.1)
    exact ⟨h.1, by show [(⟨.bool, g10_0 x0 x1 x2⟩ : Dyn)] = _; rw [h.2]⟩

theorem lifted (os : Os) (started : os.Started) (H : Type) (enc : TypeId × Value → H) :
    ReturnsInHanded {} Try.checked os 10 .any (Rows.fnExactDropBlockSpec.pre6 enc Try.prog Try.f10 Rows.fnExactDropBlockRow.domain false) (Rows.fnExactDropBlockSpec.post enc Try.prog Try.f10 false true false false) :=
  law_lifted (C := Try.checked) own started (by kernel_rfl) Try.func10
    (ChangeSpec.witness6 (enc := enc) (C := Try.checked) false ⟨#[], #[.slice none 0 0, .string .empty, .string .empty], []⟩ 8 (by kernel_rfl) (by kernel_rfl) (by kernel_rfl) (by kernel_rfl))
    laidOut (by kernel_rfl) [.sl (.cons .str (.cons .str (.cons .str .unit))), .str, .str] (by kernel_rfl) (tb := 4) rfl Try.underlying4 rfl
    (fun ds h => by
      match ds, h with
      | [d0, d1, d2], _ => exact ⟨rfl, rfl, rfl⟩)
    ginv con

theorem over : Rows.fnExactDropBlockRow.holds Try.pinned (OpenSpec.ofChange Rows.fnExactDropBlockSpec) :=
  OpenClaim.holds_of_wide 10 Try.f10 rfl rfl rfl rfl rfl rfl rfl ⟨rfl, rfl, rfl, rfl, rfl⟩ rfl rfl rfl rfl rfl (by kernel_rfl) Try.func10 (by kernel_rfl)
    (of_decide_eq_true (by kernel_rfl)) (by unfold Func.isWrapper; first | (rw [if_pos (by decide +kernel)]; kernel_rfl) | (rw [if_neg (by decide +kernel)]; exact ⟨rfl, rfl⟩))
    (fun os started H enc _ => lifted os started H enc)

theorem proved : Rows.FnExactDropBlockSaid := over
#print axioms proved
end Go.Proofs.Ytjkeinpcphkfbaa.fnExactDropBlock
