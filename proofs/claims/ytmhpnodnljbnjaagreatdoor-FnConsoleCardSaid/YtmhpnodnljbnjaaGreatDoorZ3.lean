/- FnConsole: whatever the arguments, within the size that the law sets, the program answers as the specification says. -/
import Derived.Test.YtmhpnodnljbnjaaGreatDoorZ3K
open Array renaming mem_of_getElem?->Ei,mem_toList_iff->GX
open Go.OpenSpec renaming ofChange->pX
open Go.Proofs.Tryz renaming checked->Lc,f3->H0,func3->EP,prog->aL,underlying406->Ax,underlying408->Ay,underlying64->pY,underlying9->fN
set_option maxRecDepth 100000
namespace Go.Proofs.YtmhpnodnljbnjaaGreatDoor.fnConsole
open Go Go.Am Go.Proofs
open Go.ChangeShapes Go.WideShapes Go.ChangeAt Go.RowKit
theorem kWf : Rows.fnConsoleRow.wfByText (pX Rows.fnConsoleSpec) = true := by kernel_rfl
theorem kMain : Tryz.pinned.checked.prog.mainIs = some (Rows.fnConsoleCard.stood.harness.1, Rows.fnConsoleCard.stood.harness.2.toList) := by kernel_rfl
theorem kG : aL.funcs.toList.any Func.goes = false := by kernel_rfl
theorem kGo : false = Rows.fnConsoleRow.goesBy aL := by
  have h : ∀ g : FuncId, (aL.funcs[g]?).any Func.goes = false := λg => by
    cases hg : aL.funcs[g]? with
    | none => rfl
    | some fn => simpa using List.any_eq_false.1 kG fn (GX.2 (Ei hg))
  have hc : ∀ l : List FuncId, (l.any λg => (aL.funcs[g]?).any Func.goes) = false := λl => List.any_eq_false.2 λg _ => by rw [h]; simp
  have hu : aL.funcs.any Func.goes = false := by rw [<- Array.any_toList]; exact kG
  have hg : aL.goes 3 = false := by unfold Program.goes; rw [hc, hu, Bool.and_false, Bool.or_false]
  have hf : aL.goesFrom Rows.fnConsoleRow.func = false := by unfold Program.goesFrom; rw [kFun, Option.any_some]; exact hg
  unfold OpenClaim.goesBy Program.goesAt
  rw [hf, show Rows.fnConsoleRow.start = .entering from rfl]
  rfl
theorem kLook : true = Tryz.pinned.checked.prog.looks [] := by kernel_rfl
theorem plain (f : FuncId) (fn : Func) (hf : Tryz.pinned.checked.prog.funcNamed "loop.example/g01057/laws.FnConsole" = some f) (hfn : Tryz.pinned.checked.prog.funcs[f]? = some fn) :
    true = Tryz.pinned.checked.prog.looks [] /\ ∀ (j : Nat) t, fn.params[j]? = some t -> Tryz.pinned.checked.prog.wantsStandIn t = false := by
  obtain rfl : f = 3 := Option.some.inj (kFun.symm.trans hf) |>.symm
  obtain rfl : fn = H0 := (Option.some.inj (EP.symm.trans hfn)).symm
  refine ⟨kLook, λj t ht => ?_⟩
  have hall : (H0.params.toList.all λu => !aL.wantsStandIn u) = true := by kernel_rfl
  have := List.all_eq_true.1 hall t (GX.2 (Ei ht))
  exact (show aL.wantsStandIn t = false by simpa using this)
theorem proved : Rows.FnConsoleCardSaid :=
  Claim7.holds_tied_plain_at .later [] _ _ _ _ over (λ_ h => by cases h) kWf (λ_ h => by cases h) fnConsole_row_tie rfl ⟨rfl, rfl⟩ kMain rfl plain kGo
#print axioms proved
end Go.Proofs.YtmhpnodnljbnjaaGreatDoor.fnConsole
