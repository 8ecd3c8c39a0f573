/- ValidDesk: whatever the arguments, within the size that the law sets, the program answers as the specification says. -/
import Derived.Test.YtcakiedjgnhjcaaGreatZ3A
import Derived.Test.YtcakiedjgnhjcaaGreatZ3B
import Derived.Test.YtcakiedjgnhjcaaGreatZ3C
import Derived.Test.YtcakiedjgnhjcaaGreatZ3D
import Derived.Test.YtcakiedjgnhjcaaGreatZ3E
import Derived.Test.YtcakiedjgnhjcaaGreatZ3F
import Derived.Test.YtcakiedjgnhjcaaGreatRows
import Derived.WalkKit
import Derived.ProofKit
import Derived.OpenShut
set_option linter.unusedVariables false
set_option maxRecDepth 100000
namespace Go.Proofs.YtcakiedjgnhjcaaGreat.fnExactValidDesk
open Go Go.Am Go.Proofs
open Go.ChangeShapes Go.WideShapes Go.ChangeAt Go.RowKit

theorem own : ownKnob Tryz.prog.godebug = none := by kernel_rfl
theorem laidOut : laidOutB Tryz.prog = true := by kernel_rfl

theorem con : Contract Tryz.prog 3 (lawSpec [.cons (.sl (.cons .str (.cons (.int .i64) (.cons (.int .i64) (.cons (.int .i64) .unit))))) (.cons (.cons (.int .i64) (.cons (.int .i64) (.cons (.int .i64) (.cons (.int .i64) .unit)))) (.cons (.sl (.cons (.int .i64) (.cons (.int .i64) (.cons (.int .i64) .unit)))) (.cons (.sl (.cons (.int .i64) (.cons (.int .i64) (.cons (.int .i64) .unit)))) (.cons (.cons (.int .i64) (.cons (.int .i64) (.cons (.int .i64) .unit))) (.cons (.cons (.int .i64) (.cons (.int .i64) (.cons (.int .i64) .unit))) (.cons (.sl (.cons .str (.cons (.int .i64) (.cons (.int .i64) .unit)))) (.cons (.cons (.int .i64) (.cons (.int .i64) (.cons (.int .i64) (.cons (.int .i64) .unit)))) (.cons (.sl (.cons .str (.cons (.int .i64) (.cons (.int .i64) (.cons (.int .i64) .unit))))) (.cons (.sl (.cons (.int .i64) (.cons (.int .i64) (.cons (.int .i64) .unit)))) (.cons (.sl (.cons .str (.cons (.int .i64) (.cons (.int .i64) .unit)))) (.cons (.sl (.cons .str (.cons (.int .i64) (.cons (.int .i64) .unit)))) .unit)))))))))))]) :=
  Contract.says con3 fun ⟨x0, _⟩ _ hw => by
    have h := law3 x0 (hw.1)
    exact ⟨h.1, by show [(⟨.bool, g3_0 x0⟩ : Dyn)] = _; rw [h.2]⟩

theorem lifted (os : Os) (started : os.Started) (H : Type) (enc : TypeId × Value → H) :
    ReturnsInHanded {} Tryz.checked os 3 .any (Rows.fnExactValidDeskSpec.pre6 enc Tryz.prog Tryz.f3 Rows.fnExactValidDeskRow.domain false) (Rows.fnExactValidDeskSpec.post enc Tryz.prog Tryz.f3 false true false false) :=
  law_lifted (C := Tryz.checked) own started (by kernel_rfl) Tryz.func3
    (ChangeSpec.witness6 (enc := enc) (C := Tryz.checked) false ⟨#[], #[.agg #[.slice none 0 0, .int .i64 0, .int .i64 0, .int .i64 0, .int .i64 0, .slice none 0 0, .slice none 0 0, .int .i64 0, .int .i64 0, .int .i64 0, .int .i64 0, .int .i64 0, .int .i64 0, .slice none 0 0, .int .i64 0, .int .i64 0, .int .i64 0, .int .i64 0, .slice none 0 0, .slice none 0 0, .slice none 0 0, .slice none 0 0]], []⟩ 8 (by kernel_rfl) (by kernel_rfl) (by kernel_rfl) (by kernel_rfl))
    laidOut (by kernel_rfl) [.cons (.sl (.cons .str (.cons (.int .i64) (.cons (.int .i64) (.cons (.int .i64) .unit))))) (.cons (.cons (.int .i64) (.cons (.int .i64) (.cons (.int .i64) (.cons (.int .i64) .unit)))) (.cons (.sl (.cons (.int .i64) (.cons (.int .i64) (.cons (.int .i64) .unit)))) (.cons (.sl (.cons (.int .i64) (.cons (.int .i64) (.cons (.int .i64) .unit)))) (.cons (.cons (.int .i64) (.cons (.int .i64) (.cons (.int .i64) .unit))) (.cons (.cons (.int .i64) (.cons (.int .i64) (.cons (.int .i64) .unit))) (.cons (.sl (.cons .str (.cons (.int .i64) (.cons (.int .i64) .unit)))) (.cons (.cons (.int .i64) (.cons (.int .i64) (.cons (.int .i64) (.cons (.int .i64) .unit)))) (.cons (.sl (.cons .str (.cons (.int .i64) (.cons (.int .i64) (.cons (.int .i64) .unit))))) (.cons (.sl (.cons (.int .i64) (.cons (.int .i64) (.cons (.int .i64) .unit)))) (.cons (.sl (.cons .str (.cons (.int .i64) (.cons (.int .i64) .unit)))) (.cons (.sl (.cons .str (.cons (.int .i64) (.cons (.int .i64) .unit)))) .unit)))))))))))] (by kernel_rfl) (tb := 4) rfl Tryz.underlying4 rfl
    (fun ds h => by
      match ds, h with
      | [d0], _ => exact ⟨rfl, rfl, rfl⟩)
    ginv con

theorem over : Rows.fnExactValidDeskRow.holds Tryz.pinned (OpenSpec.ofChange Rows.fnExactValidDeskSpec) :=
  OpenClaim.holds_of_wide 3 Tryz.f3 rfl rfl rfl rfl rfl rfl rfl ⟨rfl, rfl, rfl, rfl, rfl⟩ rfl rfl rfl rfl rfl (by kernel_rfl) Tryz.func3 (by kernel_rfl)
    (of_decide_eq_true (by kernel_rfl)) (by unfold Func.isWrapper; first | (rw [if_pos (by decide +kernel)]; kernel_rfl) | (rw [if_neg (by decide +kernel)]; exact ⟨rfl, rfl⟩))
    (fun os started H enc _ => lifted os started H enc)

theorem proved : Rows.FnExactValidDeskSaid := over
#print axioms proved
end Go.Proofs.YtcakiedjgnhjcaaGreat.fnExactValidDesk
