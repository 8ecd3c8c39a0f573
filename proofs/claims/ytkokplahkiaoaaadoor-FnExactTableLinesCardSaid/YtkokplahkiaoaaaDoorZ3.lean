/- TableLines: whatever the arguments, within the size that the law sets, the program answers as the specification says. -/
import Derived.Test.YtkokplahkiaoaaaDoorZ3A
import Derived.Test.YtkokplahkiaoaaaDoorZ3B
import Derived.Test.YtkokplahkiaoaaaDoorZ3C
import Derived.Test.YtkokplahkiaoaaaDoorZ3D
import Derived.Test.YtkokplahkiaoaaaDoorCards
import Derived.Test.YtkokplahkiaoaaaDoorTie
import Derived.WalkKit
import Derived.ProofKit
import Derived.OpenShut
import Derived.LaidMore
import Derived.Stop.Joined
import Derived.MakeChecks
set_option linter.unusedVariables false
set_option maxRecDepth 100000
namespace Go.Proofs.YtkokplahkiaoaaaDoor.fnExactTableLines
open Go Go.Am Go.Proofs
open Go.ChangeShapes Go.WideShapes Go.ChangeAt Go.RowKit

theorem own : ownKnob Tryd.prog.godebug = none := by kernel_rfl
theorem laidOut : laidOutB Tryd.prog = true := by kernel_rfl

theorem con : Contract Tryd.prog 3 (lawSpec [.sl (.sl .str)]) :=
  Contract.says con3 fun ⟨x0, _⟩ _ hw => by
    have h := law3 x0 (hw.1)
    exact ⟨h.1, by show [(⟨.bool, g3_0 x0⟩ : Dyn)] = _; rw [h.2]⟩

/-- The library's variables as the program's text lays them, and the pinned tables. -/
noncomputable def laidWorld (os : Os) : World := layCells (World.doorLaid Tryd.prog 4000 os) [(1, numCells Rows.laid_unicode_utf8_first)]
theorem laid_met (os : Os) (args : Array Value) : laidMetH Tryd.prog Rows.fnExactTableLinesRow.laid ((laidWorld os).forCall (fun _ _ => 0) ⟨#[], args, []⟩).memory :=
  laidMetH_of_parts3 (fuel := 8) (laidMet_of_run' 8 (by kernel_rfl) (by kernel_rfl)) (by kernel_rfl) (by kernel_rfl)
theorem lifted (os : Os) (started : os.Started) (H : Type) (enc : TypeId × Value → H) :
    ReturnsInHanded {} Tryd.checked os 3 .any (fun w args => (Rows.fnExactTableLinesSpec.pre enc Tryd.prog Tryd.f3 Rows.fnExactTableLinesRow.domain false w args ∧ laidMetH Tryd.prog Rows.fnExactTableLinesRow.laid w) ∧ sizedMet enc Tryd.prog Tryd.f3 (OpenSpec.ofChange Rows.fnExactTableLinesSpec) false w args) (Rows.fnExactTableLinesSpec.post enc Tryd.prog Tryd.f3 false true false false) :=
  law_lifted_laidN (C := Tryd.checked) own started (by kernel_rfl) Tryd.func3
    (ChangeSpec.witness_shaped (enc := enc) (C := Tryd.checked) (os := os) (X := fun w _ => laidMetH Tryd.prog Rows.fnExactTableLinesRow.laid w) false (laidWorld os) #[.slice none 0 0] 8 rfl (World.shaped_of_RefB (by kernel_rfl) (by kernel_rfl)) (by kernel_rfl) (by kernel_rfl) (by kernel_rfl) (laid_met os _))
    laidOut (by kernel_rfl) [.sl (.sl .str)] (by kernel_rfl) (tb := 4) rfl Tryd.underlying4 rfl
    (fun ds h => by
      match ds, h with
      | [d0], _ => exact ⟨rfl, rfl, rfl⟩)
    (fun W hs h => ginv W hs ) con

theorem over : Rows.fnExactTableLinesRow.holds Tryd.pinned (OpenSpec.ofChange Rows.fnExactTableLinesSpec) :=
  OpenClaim.holds_of_wide 3 Tryd.f3 rfl rfl rfl rfl rfl rfl rfl ⟨rfl, rfl, rfl, rfl, rfl⟩ rfl rfl rfl rfl rfl (by kernel_rfl) Tryd.func3 (by kernel_rfl)
    (of_decide_eq_true (by kernel_rfl)) (by unfold Func.isWrapper; first | (rw [if_pos (by decide +kernel)]; kernel_rfl) | (rw [if_neg (by decide +kernel)]; exact ⟨rfl, rfl⟩))
    (fun os started H enc _ => lifted os started H enc)

theorem plain (f : FuncId) (fn : Func) (hf : Tryd.pinned.checked.prog.funcNamed "loop.example/g01057/laws.FnExactTableLines" = some f) (hfn : Tryd.pinned.checked.prog.funcs[f]? = some fn) :
    false = Tryd.pinned.checked.prog.looks [] ∧ ∀ (j : Nat) t, fn.params[j]? = some t → Tryd.pinned.checked.prog.wantsStandIn t = false := by
  obtain rfl : f = 3 := Option.some.inj ((show Tryd.prog.funcNamed "loop.example/g01057/laws.FnExactTableLines" = some 3 by kernel_rfl).symm.trans hf) |>.symm
  obtain rfl : fn = Tryd.f3 := (Option.some.inj (Tryd.func3.symm.trans hfn)).symm
  refine ⟨by kernel_rfl, fun j t ht => ?_⟩
  have hall : (Tryd.f3.params.toList.all fun u => !Tryd.prog.wantsStandIn u) = true := by kernel_rfl
  have := List.all_eq_true.1 hall t (Array.mem_toList_iff.2 (Array.mem_of_getElem? ht))
  exact (show Tryd.prog.wantsStandIn t = false by simpa using this)

theorem proved : Rows.FnExactTableLinesCardSaid :=
  Claim7.holds_tied_plain_at .later [] _ _ _ _ over (fun _ h => by cases h) (by kernel_rfl) (fun _ h => by cases h) fnExactTableLines_row_tie rfl ⟨rfl, rfl⟩ (by kernel_rfl) rfl plain (by kernel_rfl)
#print axioms proved
end Go.Proofs.YtkokplahkiaoaaaDoor.fnExactTableLines

