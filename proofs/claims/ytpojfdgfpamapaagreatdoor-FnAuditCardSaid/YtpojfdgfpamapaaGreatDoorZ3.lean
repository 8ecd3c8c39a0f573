/- FnAudit: whatever the arguments, within the size that the law sets, the program answers as the specification says. -/
import Derived.Test.YtpojfdgfpamapaaGreatDoorZ3A
import Derived.Test.YtpojfdgfpamapaaGreatDoorZ3B
import Derived.Test.YtpojfdgfpamapaaGreatDoorZ3C
import Derived.Test.YtpojfdgfpamapaaGreatDoorZ3D
import Derived.Test.YtpojfdgfpamapaaGreatDoorZ3E
import Derived.Test.YtpojfdgfpamapaaGreatDoorZ3F
import Derived.Test.YtpojfdgfpamapaaGreatDoorCards
import Derived.Test.YtpojfdgfpamapaaGreatDoorTie
import Derived.WalkKit
import Derived.ProofKit
import Derived.OpenShut
import Derived.LaidMore
import Derived.Stop.Joined
import Derived.MakeChecks
set_option linter.unusedVariables false
set_option maxRecDepth 100000
namespace Go.Proofs.YtpojfdgfpamapaaGreatDoor.fnAudit
open Go Go.Am Go.Proofs
open Go.ChangeShapes Go.WideShapes Go.ChangeAt Go.RowKit

theorem own : ownKnob Tryz.prog.godebug = none := by kernel_rfl
theorem laidOut : laidOutB Tryz.prog = true := by kernel_rfl

theorem con : Contract Tryz.prog 3 (lawSpec [.sl (.int .u8)]) :=
  Contract.says con3 fun ⟨x0, _⟩ _ hw => by
    have h := law3 x0 (hw.1)
    exact ⟨h.1, by show [(⟨.bool, g3_0 x0⟩ : Dyn)] = _; rw [h.2]⟩

/-- The library's variables as the program's text lays them, and the pinned tables. -/
noncomputable def laidWorld (os : Os) : World := layCells (World.doorLaid Tryz.prog 4000 os) [(4, numCells Rows.laid_unicode_utf8_first)]
theorem laid_met (os : Os) (args : Array Value) : laidMetH Tryz.prog Rows.fnAuditRow.laid ((laidWorld os).forCall (fun _ _ => 0) ⟨#[], args, []⟩).memory :=
  laidMetH_of_parts3 (fuel := 8) (laidMet_of_run' 8 (by kernel_rfl) (by kernel_rfl)) (by kernel_rfl) (by kernel_rfl)
theorem has0 {W : World} (h : laidMetH Tryz.prog Rows.fnAuditRow.laid W) : GHas W 0 (.tab .u64 Lib.pow10Tab) := by
  rw [MakeChecks.laidMetH_plain _ _ _ (by kernel_rfl)] at h
  exact GHas.ofTab (name := "internal/strconv.uint64pow10") (by kernel_rfl) (tab_of_laid (g := 0) (i := 2) (t := 173) (e := 67) (n := 20) h (by kernel_rfl) (by kernel_rfl) (by kernel_rfl) Tryz.underlying173 Tryz.underlying67 (by kernel_rfl) (by kernel_rfl))
theorem lifted (os : Os) (started : os.Started) (H : Type) (enc : TypeId × Value → H) :
    ReturnsInHanded {} Tryz.checked os 3 .any (fun w args => (Rows.fnAuditSpec.pre enc Tryz.prog Tryz.f3 Rows.fnAuditRow.domain false w args ∧ laidMetH Tryz.prog Rows.fnAuditRow.laid w) ∧ sizedMet enc Tryz.prog Tryz.f3 (OpenSpec.ofChange Rows.fnAuditSpec) false w args) (Rows.fnAuditSpec.post enc Tryz.prog Tryz.f3 false true false false) :=
  law_lifted_laid (C := Tryz.checked) own started (by kernel_rfl) Tryz.func3
    (ChangeSpec.witness_shaped (enc := enc) (C := Tryz.checked) (os := os) (X := fun w _ => laidMetH Tryz.prog Rows.fnAuditRow.laid w) false (laidWorld os) #[.slice none 0 0] 8 rfl (World.shaped_of_RefB (by kernel_rfl) (by kernel_rfl)) (by kernel_rfl) (by kernel_rfl) (by kernel_rfl) (laid_met os _))
    laidOut (by kernel_rfl) [.sl (.int .u8)] (by kernel_rfl) (tb := 4) rfl Tryz.underlying4 rfl
    (fun ds h => by
      match ds, h with
      | [d0], _ => exact ⟨rfl, rfl, rfl⟩)
    (fun W hs h => ginv W hs (has0 h)) con

theorem over : Rows.fnAuditRow.holds Tryz.pinned (OpenSpec.ofChange Rows.fnAuditSpec) :=
  OpenClaim.holds_of_wide 3 Tryz.f3 rfl rfl rfl rfl rfl rfl rfl ⟨rfl, rfl, rfl, rfl, rfl⟩ rfl rfl rfl rfl rfl (by kernel_rfl) Tryz.func3 (by kernel_rfl)
    (of_decide_eq_true (by kernel_rfl)) (by unfold Func.isWrapper; first | (rw [if_pos (by decide +kernel)]; kernel_rfl) | (rw [if_neg (by decide +kernel)]; exact ⟨rfl, rfl⟩))
    (fun os started H enc _ => lifted os started H enc)

theorem plain (f : FuncId) (fn : Func) (hf : Tryz.pinned.checked.prog.funcNamed "loop.example/g01057/laws.FnAudit" = some f) (hfn : Tryz.pinned.checked.prog.funcs[f]? = some fn) :
    false = Tryz.pinned.checked.prog.looks [] ∧ ∀ (j : Nat) t, fn.params[j]? = some t → Tryz.pinned.checked.prog.wantsStandIn t = false := by
  obtain rfl : f = 3 := Option.some.inj ((show Tryz.prog.funcNamed "loop.example/g01057/laws.FnAudit" = some 3 by kernel_rfl).symm.trans hf) |>.symm
  obtain rfl : fn = Tryz.f3 := (Option.some.inj (Tryz.func3.symm.trans hfn)).symm
  refine ⟨by kernel_rfl, fun j t ht => ?_⟩
  have hall : (Tryz.f3.params.toList.all fun u => !Tryz.prog.wantsStandIn u) = true := by kernel_rfl
  have := List.all_eq_true.1 hall t (Array.mem_toList_iff.2 (Array.mem_of_getElem? ht))
  exact (show Tryz.prog.wantsStandIn t = false by simpa using this)

theorem proved : Rows.FnAuditCardSaid :=
  Claim7.holds_tied_plain_at .later [] _ _ _ _ over (fun _ h => by cases h) (by kernel_rfl) (fun _ h => by cases h) fnAudit_row_tie rfl ⟨rfl, rfl⟩ (by kernel_rfl) rfl plain (by kernel_rfl)
#print axioms proved
end Go.Proofs.YtpojfdgfpamapaaGreatDoor.fnAudit

