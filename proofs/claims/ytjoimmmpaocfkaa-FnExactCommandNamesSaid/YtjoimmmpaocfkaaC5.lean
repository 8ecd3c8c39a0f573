/- The names of the commands: the program gives the same names as the specification does, in memory of its own. -/
import Derived.Test.YtjoimmmpaocfkaaL5
import Derived.Test.YtjoimmmpaocfkaaRows
import Derived.WalkKit
import Derived.ProofKit
import Derived.OpenShut
set_option linter.unusedVariables false
set_option maxRecDepth 100000
namespace Go.Proofs.Ytjoimmmpaocfkaa.fnExactCommandNames
open Go Go.Am Go.Proofs
open Go.ChangeShapes Go.WideShapes Go.ChangeAt Go.RowKit

theorem own : ownKnob Try.prog.godebug = none := by kernel_rfl
theorem laidOut : laidOutB Try.prog = true := by kernel_rfl

theorem con : Contract Try.prog 5 (lawSpec []) :=
  Contract.says con5 fun _ _ hw => by
    have h := law5 
    exact ⟨h.1, by show [(⟨.bool, g5_0⟩ : Dyn)] = _; rw [h.2]⟩

theorem lifted (os : Os) (started : os.Started) (H : Type) (enc : TypeId × Value → H) :
    ReturnsInHanded {} Try.checked os 5 .any (Rows.fnExactCommandNamesSpec.pre6 enc Try.prog Try.f5 Rows.fnExactCommandNamesRow.domain false) (Rows.fnExactCommandNamesSpec.post enc Try.prog Try.f5 false true false false) :=
  law_lifted (C := Try.checked) own started (by kernel_rfl) Try.func5
    (ChangeSpec.witness6 (enc := enc) (C := Try.checked) false ⟨#[], #[], []⟩ 8 (by kernel_rfl) (by kernel_rfl) (by kernel_rfl) (by kernel_rfl))
    laidOut (by kernel_rfl) [] (by kernel_rfl) (tb := 4) rfl Try.underlying4 rfl
    (fun ds h => by
      match ds, h with
      | [], _ => exact ⟨rfl, rfl, rfl⟩)
    con

theorem over : Rows.fnExactCommandNamesRow.holds Try.pinned (OpenSpec.ofChange Rows.fnExactCommandNamesSpec) :=
  OpenClaim.holds_of_wide 5 Try.f5 rfl rfl rfl rfl rfl rfl rfl ⟨rfl, rfl, rfl, rfl, rfl⟩ rfl rfl rfl rfl rfl (by kernel_rfl) Try.func5 (by kernel_rfl)
    (of_decide_eq_true (by kernel_rfl)) (by unfold Func.isWrapper; first | (rw [if_pos (by decide +kernel)]; kernel_rfl) | (rw [if_neg (by decide +kernel)]; exact ⟨rfl, rfl⟩))
    (fun os started H enc _ => lifted os started H enc)

theorem proved : Rows.FnExactCommandNamesSaid := over
#print axioms proved
end Go.Proofs.Ytjoimmmpaocfkaa.fnExactCommandNames
