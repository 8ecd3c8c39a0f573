/- FnDuties: whatever the arguments, within the size that the law sets, the program answers as the specification says. -/
import Derived.Test.YthmimdpgkcadnaaZ3A
import Derived.Test.YthmimdpgkcadnaaZ3B
import Derived.Test.YthmimdpgkcadnaaZ3C
import Derived.Test.YthmimdpgkcadnaaZ3D
import Derived.Test.YthmimdpgkcadnaaZ3E
import Derived.Test.YthmimdpgkcadnaaRows
import Derived.WalkKit
import Derived.ProofKit
import Derived.OpenShut
set_option linter.unusedVariables false
set_option maxRecDepth 100000
namespace Go.Proofs.Ythmimdpgkcadnaa.fnDuties
open Go Go.Am Go.Proofs
open Go.ChangeShapes Go.WideShapes Go.ChangeAt Go.RowKit

theorem own : ownKnob Try.prog.godebug = none := by kernel_rfl
theorem laidOut : laidOutB Try.prog = true := by kernel_rfl

theorem con : Contract Try.prog 3 (lawSpec [.sl (.int .u8), .sl (.int .u8)]) :=
  Contract.says con3 fun ⟨x0, x1, _⟩ _ hw => by
    have h := law3 x0 x1 (hw.1) (hw.2.1)
    exact ⟨h.1, by show [(⟨.bool, g3_0 x0 x1⟩ : Dyn)] = _; rw [h.2]⟩

theorem lifted (os : Os) (started : os.Started) (H : Type) (enc : TypeId × Value → H) :
    ReturnsInHanded {} Try.checked os 3 .any (Rows.fnDutiesSpec.pre6 enc Try.prog Try.f3 Rows.fnDutiesRow.domain false) (Rows.fnDutiesSpec.post enc Try.prog Try.f3 false true false false) :=
  law_lifted (C := Try.checked) own started (by kernel_rfl) Try.func3
    (ChangeSpec.witness6 (enc := enc) (C := Try.checked) false ⟨#[], #[.slice none 0 0, .slice none 0 0], []⟩ 8 (by kernel_rfl) (by kernel_rfl) (by kernel_rfl) (by kernel_rfl))
    laidOut (by kernel_rfl) [.sl (.int .u8), .sl (.int .u8)] (by kernel_rfl) (tb := 4) rfl Try.underlying4 rfl
    (fun ds h => by
      match ds, h with
      | [d0, d1], _ => exact ⟨rfl, rfl, rfl⟩)
    ginv con

theorem over : Rows.fnDutiesRow.holds Try.pinned (OpenSpec.ofChange Rows.fnDutiesSpec) :=
  OpenClaim.holds_of_wide 3 Try.f3 rfl rfl rfl rfl rfl rfl rfl ⟨rfl, rfl, rfl, rfl, rfl⟩ rfl rfl rfl rfl rfl (by kernel_rfl) Try.func3 (by kernel_rfl)
    (of_decide_eq_true (by kernel_rfl)) (by unfold Func.isWrapper; first | (rw [if_pos (by decide +kernel)]; kernel_rfl) | (rw [if_neg (by decide +kernel)]; exact ⟨rfl, rfl⟩))
    (fun os started H enc _ => lifted os started H enc)

theorem proved : Rows.FnDutiesSaid := over
#print axioms proved
end Go.Proofs.Ythmimdpgkcadnaa.fnDuties
