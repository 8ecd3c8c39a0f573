/- FnFrames: whatever the arguments, within the size that the law sets, the program answers as the specification says. -/
import Derived.Test.YtbepbihblhhfkaaGreatDoorZ3A
import Derived.Test.YtbepbihblhhfkaaGreatDoorZ3B
import Derived.Test.YtbepbihblhhfkaaGreatDoorZ3C
import Derived.Test.YtbepbihblhhfkaaGreatDoorZ3D
import Derived.Test.YtbepbihblhhfkaaGreatDoorZ3E
import Derived.Test.YtbepbihblhhfkaaGreatDoorZ3F
import Derived.Test.YtbepbihblhhfkaaGreatDoorCards
import Derived.Test.YtbepbihblhhfkaaGreatDoorTie
import Derived.WalkKit
import Derived.ProofKit
import Derived.OpenShut
import Derived.LaidMore
import Derived.Stop.Joined
import Derived.MakeChecks
set_option linter.unusedVariables false
set_option maxRecDepth 100000
namespace Go.Proofs.YtbepbihblhhfkaaGreatDoor.fnFrames
open Go Go.Am Go.Proofs
open Go.ChangeShapes Go.WideShapes Go.ChangeAt Go.RowKit

theorem own : ownKnob Tryz.prog.godebug = none := by kernel_rfl
theorem laidOut : laidOutB Tryz.prog = true := by kernel_rfl

theorem con : Contract Tryz.prog 3 (lawSpec [.sl (.int .u8), .sl (.int .u8)]) :=
  Contract.says con3 fun ⟨x0, x1, _⟩ _ hw => by
    have h := law3 x0 x1 (hw.1) (hw.2.1)
    exact ⟨h.1, by show [(⟨.bool, g3_0 x0 x1⟩ : Dyn)] = _; rw [h.2]⟩

/-- The library's variables as the program's text lays them, and the pinned tables. -/
noncomputable def laidWorld (os : Os) : World := layCells (World.doorLaid Tryz.prog 4000 os) [(6, numCells Rows.laid_unicode_utf8_first)]
theorem laid_met (os : Os) (args : Array Value) : laidMetH Tryz.prog Rows.fnFramesRow.laid ((laidWorld os).forCall (fun _ _ => 0) ⟨#[], args, []⟩).memory :=
  laidMetH_of_parts3 (fuel := 8) (laidMet_of_run' 8 (by kernel_rfl) (by kernel_rfl)) (by kernel_rfl) (by kernel_rfl)
theorem errStar : "*" ++ "errors.errorString" = "*errors.errorString" := by decide
theorem errRow (u : TypeId) (h : Tryz.prog.typeName? 3 u = some "*errors.errorString") : u = 172 :=
  typeName_ptr_named (nm := "errors.errorString") (by rw [errStar]; kernel_rfl) (by kernel_rfl) (by decide) u (by rw [errStar]; exact h)
theorem has0 {W : World} (h : laidMetH Tryz.prog Rows.fnFramesRow.laid W) : GHas W 0 (.tab .u64 Lib.pow10Tab) := by
  rw [MakeChecks.laidMetH_plain _ _ _ (by kernel_rfl)] at h
  exact GHas.ofTab (name := "internal/strconv.uint64pow10") (by kernel_rfl) (tab_of_laid (g := 0) (i := 2) (t := 157) (e := 83) (n := 20) h (by kernel_rfl) (by kernel_rfl) (by kernel_rfl) Tryz.underlying157 Tryz.underlying83 (by kernel_rfl) (by kernel_rfl))
theorem has1 {W : World} (h : laidMetH Tryz.prog Rows.fnFramesRow.laid W) : GHas W 1 (.ifc) := by
  rw [MakeChecks.laidMetH_plain _ _ _ (by kernel_rfl)] at h
  exact ifc_of_laid (i := 5) (name := "strconv.ErrSyntax") (text := [105, 110, 118, 97, 108, 105, 100, 32, 115, 121, 110, 116, 97, 120]) h (by kernel_rfl) (by kernel_rfl) (by kernel_rfl) Tryz.underlying52 errRow Tryz.underlying172 Tryz.underlying174 rfl rfl Tryz.underlying9 (by kernel_rfl) (by kernel_rfl)
theorem has2 {W : World} (h : laidMetH Tryz.prog Rows.fnFramesRow.laid W) : GHas W 2 (.ifc) := by
  rw [MakeChecks.laidMetH_plain _ _ _ (by kernel_rfl)] at h
  exact ifc_of_laid (i := 4) (name := "strconv.ErrRange") (text := [118, 97, 108, 117, 101, 32, 111, 117, 116, 32, 111, 102, 32, 114, 97, 110, 103, 101]) h (by kernel_rfl) (by kernel_rfl) (by kernel_rfl) Tryz.underlying52 errRow Tryz.underlying172 Tryz.underlying174 rfl rfl Tryz.underlying9 (by kernel_rfl) (by kernel_rfl)
theorem lifted (os : Os) (started : os.Started) (H : Type) (enc : TypeId × Value → H) :
    ReturnsInHanded {} Tryz.checked os 3 .any (fun w args => (Rows.fnFramesSpec.pre enc Tryz.prog Tryz.f3 Rows.fnFramesRow.domain false w args ∧ laidMetH Tryz.prog Rows.fnFramesRow.laid w) ∧ sizedMet enc Tryz.prog Tryz.f3 (OpenSpec.ofChange Rows.fnFramesSpec) false w args) (Rows.fnFramesSpec.post enc Tryz.prog Tryz.f3 false true false false) :=
  law_lifted_laid (C := Tryz.checked) own started (by kernel_rfl) Tryz.func3
    (ChangeSpec.witness_shaped (enc := enc) (C := Tryz.checked) (os := os) (X := fun w _ => laidMetH Tryz.prog Rows.fnFramesRow.laid w) false (laidWorld os) #[.slice none 0 0, .slice none 0 0] 8 rfl (World.shaped_of_RefB (by kernel_rfl) (by kernel_rfl)) (by kernel_rfl) (by kernel_rfl) (by kernel_rfl) (laid_met os _))
    laidOut (by kernel_rfl) [.sl (.int .u8), .sl (.int .u8)] (by kernel_rfl) (tb := 4) rfl Tryz.underlying4 rfl
    (fun ds h => by
      match ds, h with
      | [d0, d1], _ => exact ⟨rfl, rfl, rfl⟩)
    (fun W hs h => ginv W hs (has0 h) (has1 h) (has2 h)) con

theorem over : Rows.fnFramesRow.holds Tryz.pinned (OpenSpec.ofChange Rows.fnFramesSpec) :=
  OpenClaim.holds_of_wide 3 Tryz.f3 rfl rfl rfl rfl rfl rfl rfl ⟨rfl, rfl, rfl, rfl, rfl⟩ rfl rfl rfl rfl rfl (by kernel_rfl) Tryz.func3 (by kernel_rfl)
    (of_decide_eq_true (by kernel_rfl)) (by unfold Func.isWrapper; first | (rw [if_pos (by decide +kernel)]; kernel_rfl) | (rw [if_neg (by decide +kernel)]; exact ⟨rfl, rfl⟩))
    (fun os started H enc _ => lifted os started H enc)

theorem plain (f : FuncId) (fn : Func) (hf : Tryz.pinned.checked.prog.funcNamed "loop.example/g01057/laws.FnFrames" = some f) (hfn : Tryz.pinned.checked.prog.funcs[f]? = some fn) :
    true = Tryz.pinned.checked.prog.looks [] ∧ ∀ (j : Nat) t, fn.params[j]? = some t → Tryz.pinned.checked.prog.wantsStandIn t = false := by
  obtain rfl : f = 3 := Option.some.inj ((show Tryz.prog.funcNamed "loop.example/g01057/laws.FnFrames" = some 3 by kernel_rfl).symm.trans hf) |>.symm
  obtain rfl : fn = Tryz.f3 := (Option.some.inj (Tryz.func3.symm.trans hfn)).symm
  refine ⟨by kernel_rfl, fun j t ht => ?_⟩
  have hall : (Tryz.f3.params.toList.all fun u => !Tryz.prog.wantsStandIn u) = true := by kernel_rfl
  have := List.all_eq_true.1 hall t (Array.mem_toList_iff.2 (Array.mem_of_getElem? ht))
  exact (show Tryz.prog.wantsStandIn t = false by simpa using this)

theorem proved : Rows.FnFramesCardSaid :=
  Claim7.holds_tied_plain_at .later [] _ _ _ _ over (fun _ h => by cases h) (by kernel_rfl) (fun _ h => by cases h) fnFrames_row_tie rfl ⟨rfl, rfl⟩ (by kernel_rfl) rfl plain (by kernel_rfl)
#print axioms proved
end Go.Proofs.YtbepbihblhhfkaaGreatDoor.fnFrames

