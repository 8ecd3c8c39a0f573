/- CountLines: whatever the arguments, within the size that the law sets, the program answers as the specification says. -/
import Derived.Test.YtncnaaoifbhkjaaZ4A
import Derived.Test.YtncnaaoifbhkjaaZ4B
import Derived.Test.YtncnaaoifbhkjaaZ4C
import Derived.Test.YtncnaaoifbhkjaaRows
import Derived.WalkKit
import Derived.ProofKit
import Derived.OpenShut
set_option linter.unusedVariables false
set_option maxRecDepth 100000
namespace Go.Proofs.Ytncnaaoifbhkjaa.fnExactCountLines
open Go Go.Am Go.Proofs
open Go.ChangeShapes Go.WideShapes Go.ChangeAt Go.RowKit

theorem own : ownKnob Try.prog.godebug = none := by kernel_rfl
theorem laidOut : laidOutB Try.prog = true := by kernel_rfl

theorem con : Contract Try.prog 4 (lawSpec [.sl .str]) :=
  Contract.says con4 fun ⟨x0, _⟩ _ hw => by
    have h := law4 x0 (hw.1)
    exact ⟨h.1, by show [(⟨.bool, g4_0 x0⟩ : Dyn)] = _; rw [h.2]⟩

theorem lifted (os : Os) (started : os.Started) (H : Type) (enc : TypeId × Value → H) :
    ReturnsInHanded {} Try.checked os 4 .any (Rows.fnExactCountLinesSpec.pre6 enc Try.prog Try.f4 Rows.fnExactCountLinesRow.domain false) (Rows.fnExactCountLinesSpec.post enc Try.prog Try.f4 false true false false) :=
  law_lifted (C := Try.checked) own started (by kernel_rfl) Try.func4
    (ChangeSpec.witness6 (enc := enc) (C := Try.checked) false ⟨#[], #[.slice none 0 0], []⟩ 8 (by kernel_rfl) (by kernel_rfl) (by kernel_rfl) (by kernel_rfl))
    laidOut (by kernel_rfl) [.sl .str] (by kernel_rfl) (tb := 4) rfl Try.underlying4 rfl
    (fun ds h => by
      match ds, h with
      | [d0], _ => exact ⟨rfl, rfl, rfl⟩)
    ginv con

theorem over : Rows.fnExactCountLinesRow.holds Try.pinned (OpenSpec.ofChange Rows.fnExactCountLinesSpec) :=
  OpenClaim.holds_of_wide 4 Try.f4 rfl rfl rfl rfl rfl rfl rfl ⟨rfl, rfl, rfl, rfl, rfl⟩ rfl rfl rfl rfl rfl (by kernel_rfl) Try.func4 (by kernel_rfl)
    (of_decide_eq_true (by kernel_rfl)) (by unfold Func.isWrapper; first | (rw [if_pos (by decide +kernel)]; kernel_rfl) | (rw [if_neg (by decide +kernel)]; exact ⟨rfl, rfl⟩))
    (fun os started H enc _ => lifted os started H enc)

theorem proved : Rows.FnExactCountLinesSaid := over
#print axioms proved
end Go.Proofs.Ytncnaaoifbhkjaa.fnExactCountLines
