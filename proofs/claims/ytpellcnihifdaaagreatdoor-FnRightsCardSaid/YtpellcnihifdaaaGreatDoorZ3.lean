/- FnRights: whatever the arguments, within the size that the law sets, the program answers as the specification says. -/
import Derived.Test.YtpellcnihifdaaaGreatDoorZ3A
import Derived.Test.YtpellcnihifdaaaGreatDoorZ3B
import Derived.Test.YtpellcnihifdaaaGreatDoorZ3C
import Derived.Test.YtpellcnihifdaaaGreatDoorZ3D
import Derived.Test.YtpellcnihifdaaaGreatDoorZ3E
import Derived.Test.YtpellcnihifdaaaGreatDoorZ3F
import Derived.Test.YtpellcnihifdaaaGreatDoorCards
import Derived.Test.YtpellcnihifdaaaGreatDoorTie
import Derived.WalkKit
import Derived.ProofKit
import Derived.OpenShut
import Derived.LaidMore
import Derived.Stop.Joined
import Derived.MakeChecks
set_option linter.unusedVariables false
set_option maxRecDepth 100000
namespace Go.Proofs.YtpellcnihifdaaaGreatDoor.fnRights
open Go Go.Am Go.Proofs
open Go.ChangeShapes Go.WideShapes Go.ChangeAt Go.RowKit

theorem own : ownKnob Tryz.prog.godebug = none := by kernel_rfl
theorem laidOut : laidOutB Tryz.prog = true := by kernel_rfl

theorem con : Contract Tryz.prog 3 (lawSpec [.sl (.int .u8), .sl (.int .u8)]) :=
  Contract.says con3 fun ⟨x0, x1, _⟩ _ hw => by
    have h := law3 x0 x1 (hw.1) (hw.2.1)
    exact ⟨h.1, by show [(⟨.bool, g3_0 x0 x1⟩ : Dyn)] = _; rw [h.2]⟩

/-- The library's variables as the program's text lays them, and the pinned tables. -/
noncomputable def laidWorld (os : Os) : World := layCells (World.doorLaid Tryz.prog 4000 os) [(1, numCells Rows.laid_unicode_utf8_first)]
theorem laid_met (os : Os) (args : Array Value) : laidMetH Tryz.prog Rows.fnRightsRow.laid ((laidWorld os).forCall (fun _ _ => 0) ⟨#[], args, []⟩).memory :=
  laidMetH_of_parts3 (fuel := 8) (laidMet_of_run' 8 (by kernel_rfl) (by kernel_rfl)) (by kernel_rfl) (by kernel_rfl)
theorem lifted (os : Os) (started : os.Started) (H : Type) (enc : TypeId × Value → H) :
    ReturnsInHanded {} Tryz.checked os 3 .any (fun w args => (Rows.fnRightsSpec.pre enc Tryz.prog Tryz.f3 Rows.fnRightsRow.domain false w args ∧ laidMetH Tryz.prog Rows.fnRightsRow.laid w) ∧ sizedMet enc Tryz.prog Tryz.f3 (OpenSpec.ofChange Rows.fnRightsSpec) false w args) (Rows.fnRightsSpec.post enc Tryz.prog Tryz.f3 false true false false) :=
  law_lifted_laid (C := Tryz.checked) own started (by kernel_rfl) Tryz.func3
    (ChangeSpec.witness_shaped (enc := enc) (C := Tryz.checked) (os := os) (X := fun w _ => laidMetH Tryz.prog Rows.fnRightsRow.laid w) false (laidWorld os) #[.slice none 0 0, .slice none 0 0] 8 rfl (World.shaped_of_RefB (by kernel_rfl) (by kernel_rfl)) (by kernel_rfl) (by kernel_rfl) (by kernel_rfl) (laid_met os _))
    laidOut (by kernel_rfl) [.sl (.int .u8), .sl (.int .u8)] (by kernel_rfl) (tb := 4) rfl Tryz.underlying4 rfl
    (fun ds h => by
      match ds, h with
      | [d0, d1], _ => exact ⟨rfl, rfl, rfl⟩)
    (fun W hs h => ginv W hs ) con

theorem over : Rows.fnRightsRow.holds Tryz.pinned (OpenSpec.ofChange Rows.fnRightsSpec) :=
  OpenClaim.holds_of_wide 3 Tryz.f3 rfl rfl rfl rfl rfl rfl rfl ⟨rfl, rfl, rfl, rfl, rfl⟩ rfl rfl rfl rfl rfl (by kernel_rfl) Tryz.func3 (by kernel_rfl)
    (of_decide_eq_true (by kernel_rfl)) (by unfold Func.isWrapper; first | (rw [if_pos (by decide +kernel)]; kernel_rfl) | (rw [if_neg (by decide +kernel)]; exact ⟨rfl, rfl⟩))
    (fun os started H enc _ => lifted os started H enc)

theorem plain (f : FuncId) (fn : Func) (hf : Tryz.pinned.checked.prog.funcNamed "loop.example/g01057/laws.FnRights" = some f) (hfn : Tryz.pinned.checked.prog.funcs[f]? = some fn) :
    false = Tryz.pinned.checked.prog.looks [] ∧ ∀ (j : Nat) t, fn.params[j]? = some t → Tryz.pinned.checked.prog.wantsStandIn t = false := by
  obtain rfl : f = 3 := Option.some.inj ((show Tryz.prog.funcNamed "loop.example/g01057/laws.FnRights" = some 3 by kernel_rfl).symm.trans hf) |>.symm
  obtain rfl : fn = Tryz.f3 := (Option.some.inj (Tryz.func3.symm.trans hfn)).symm
  refine ⟨by kernel_rfl, fun j t ht => ?_⟩
  have hall : (Tryz.f3.params.toList.all fun u => !Tryz.prog.wantsStandIn u) = true := by kernel_rfl
  have := List.all_eq_true.1 hall t (Array.mem_toList_iff.2 (Array.mem_of_getElem? ht))
  exact (show Tryz.prog.wantsStandIn t = false by simpa using this)

theorem proved : Rows.FnRightsCardSaid :=
  Claim7.holds_tied_plain_at .later [] _ _ _ _ over (fun _ h => by cases h) (by kernel_rfl) (fun _ h => by cases h) fnRights_row_tie rfl ⟨rfl, rfl⟩ (by kernel_rfl) rfl plain (by kernel_rfl)
#print axioms proved
end Go.Proofs.YtpellcnihifdaaaGreatDoor.fnRights

