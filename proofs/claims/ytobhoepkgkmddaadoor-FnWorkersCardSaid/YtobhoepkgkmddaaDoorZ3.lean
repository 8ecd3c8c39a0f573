/- FnWorkers: whatever the arguments, within the size that the law sets, the program answers as the specification says. -/
import Derived.Test.YtobhoepkgkmddaaDoorZ3A
import Derived.Test.YtobhoepkgkmddaaDoorZ3B
import Derived.Test.YtobhoepkgkmddaaDoorZ3C
import Derived.Test.YtobhoepkgkmddaaDoorZ3D
import Derived.Test.YtobhoepkgkmddaaDoorZ3E
import Derived.Test.YtobhoepkgkmddaaDoorCards
import Derived.Test.YtobhoepkgkmddaaDoorTie
import Derived.WalkKit
import Derived.ProofKit
import Derived.OpenShut
import Derived.LaidMore
import Derived.Stop.Joined
import Derived.MakeChecks
set_option linter.unusedVariables false
set_option maxRecDepth 100000
namespace Go.Proofs.YtobhoepkgkmddaaDoor.fnWorkers
open Go Go.Am Go.Proofs
open Go.ChangeShapes Go.WideShapes Go.ChangeAt Go.RowKit

theorem own : ownKnob Tryd.prog.godebug = none := by kernel_rfl
theorem laidOut : laidOutB Tryd.prog = true := by kernel_rfl

theorem con : Contract Tryd.prog 3 (lawSpec [.sl (.int .u8), .sl (.int .u8)]) :=
  Contract.says con3 fun ⟨x0, x1, _⟩ _ hw => by
    have h := law3 x0 x1 (hw.1) (hw.2.1)
    exact ⟨h.1, by show [(⟨.bool, g3_0 x0 x1⟩ : Dyn)] = _; rw [h.2]⟩

/-- The library's variables as the program's text lays them, and the pinned tables. -/
noncomputable def laidWorld (os : Os) : World := layCells (World.doorLaid Tryd.prog 4000 os) [(1, numCells Rows.laid_unicode_utf8_first)]
theorem laid_met (os : Os) (args : Array Value) : laidMetH Tryd.prog Rows.fnWorkersRow.laid ((laidWorld os).forCall (fun _ _ => 0) ⟨#[], args, []⟩).memory :=
  laidMetH_of_parts3 (fuel := 8) (laidMet_of_run' 8 (by kernel_rfl) (by kernel_rfl)) (by kernel_rfl) (by kernel_rfl)
theorem has3 {W : World} (h : laidMetH Tryd.prog Rows.fnWorkersRow.laid W) : GHas W 3 (.tab .u64 Lib.pow10Tab) := by
  rw [MakeChecks.laidMetH_plain _ _ _ (by kernel_rfl)] at h
  exact GHas.ofTab (name := "internal/strconv.uint64pow10") (by kernel_rfl) (tab_of_laid (g := 3) (i := 2) (t := 120) (e := 59) (n := 20) h (by kernel_rfl) (by kernel_rfl) (by kernel_rfl) Tryd.underlying120 Tryd.underlying59 (by kernel_rfl) (by kernel_rfl))
theorem lifted (os : Os) (started : os.Started) (H : Type) (enc : TypeId × Value → H) :
    ReturnsInHanded {} Tryd.checked os 3 .any (fun w args => (Rows.fnWorkersSpec.pre enc Tryd.prog Tryd.f3 Rows.fnWorkersRow.domain false w args ∧ laidMetH Tryd.prog Rows.fnWorkersRow.laid w) ∧ sizedMet enc Tryd.prog Tryd.f3 (OpenSpec.ofChange Rows.fnWorkersSpec) false w args) (Rows.fnWorkersSpec.post enc Tryd.prog Tryd.f3 false true false false) :=
  law_lifted_laid (C := Tryd.checked) own started (by kernel_rfl) Tryd.func3
    (ChangeSpec.witness_shaped (enc := enc) (C := Tryd.checked) (os := os) (X := fun w _ => laidMetH Tryd.prog Rows.fnWorkersRow.laid w) false (laidWorld os) #[.slice none 0 0, .slice none 0 0] 8 rfl (World.shaped_of_RefB (by kernel_rfl) (by kernel_rfl)) (by kernel_rfl) (by kernel_rfl) (by kernel_rfl) (laid_met os _))
    laidOut (by kernel_rfl) [.sl (.int .u8), .sl (.int .u8)] (by kernel_rfl) (tb := 4) rfl Tryd.underlying4 rfl
    (fun ds h => by
      match ds, h with
      | [d0, d1], _ => exact ⟨rfl, rfl, rfl⟩)
    (fun W hs h => ginv W hs (has3 h)) con

theorem over : Rows.fnWorkersRow.holds Tryd.pinned (OpenSpec.ofChange Rows.fnWorkersSpec) :=
  OpenClaim.holds_of_wide 3 Tryd.f3 rfl rfl rfl rfl rfl rfl rfl ⟨rfl, rfl, rfl, rfl, rfl⟩ rfl rfl rfl rfl rfl (by kernel_rfl) Tryd.func3 (by kernel_rfl)
    (of_decide_eq_true (by kernel_rfl)) (by unfold Func.isWrapper; first | (rw [if_pos (by decide +kernel)]; kernel_rfl) | (rw [if_neg (by decide +kernel)]; exact ⟨rfl, rfl⟩))
    (fun os started H enc _ => lifted os started H enc)

theorem plain (f : FuncId) (fn : Func) (hf : Tryd.pinned.checked.prog.funcNamed "loop.example/g01057/laws.FnWorkers" = some f) (hfn : Tryd.pinned.checked.prog.funcs[f]? = some fn) :
    false = Tryd.pinned.checked.prog.looks [] ∧ ∀ (j : Nat) t, fn.params[j]? = some t → Tryd.pinned.checked.prog.wantsStandIn t = false := by
  obtain rfl : f = 3 := Option.some.inj ((show Tryd.prog.funcNamed "loop.example/g01057/laws.FnWorkers" = some 3 by kernel_rfl).symm.trans hf) |>.symm
  obtain rfl : fn = Tryd.f3 := (Option.some.inj (Tryd.func3.symm.trans hfn)).symm
  refine ⟨by kernel_rfl, fun j t ht => ?_⟩
  have hall : (Tryd.f3.params.toList.all fun u => !Tryd.prog.wantsStandIn u) = true := by kernel_rfl
  have := List.all_eq_true.1 hall t (Array.mem_toList_iff.2 (Array.mem_of_getElem? ht))
  exact (show Tryd.prog.wantsStandIn t = false by simpa using this)

theorem proved : Rows.FnWorkersCardSaid :=
  Claim7.holds_tied_plain_at .later [] _ _ _ _ over (fun _ h => by cases h) (by kernel_rfl) (fun _ h => by cases h) fnWorkers_row_tie rfl ⟨rfl, rfl⟩ (by kernel_rfl) rfl plain (by kernel_rfl)
#print axioms proved
end Go.Proofs.YtobhoepkgkmddaaDoor.fnWorkers

