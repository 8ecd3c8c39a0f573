/- DeskCommand: whatever the arguments, within the size that the law sets, the program answers as the specification says. -/
import Derived.Test.YtbaoaedmbhpolaaGreatDoorZ3W
open Array renaming mem_of_getElem?->IE,mem_toList_iff->K8
open Go.OpenSpec renaming ofChange->sL
open Go.Proofs.Tryz renaming checked->QV,f3->LN,func3->H7,prog->aN,underlying268->rI,underlying486->Cz,underlying488->DA,underlying9->gO
set_option maxRecDepth 100000
namespace Go.Proofs.YtbaoaedmbhpolaaGreatDoor.fnExactDeskCommand
open Go Go.Am Go.Proofs
open Go.ChangeShapes Go.WideShapes Go.ChangeAt Go.RowKit
theorem kWf:Rows.fnExactDeskCommandRow.wfByText (sL Rows.fnExactDeskCommandSpec) = true:=by kernel_rfl
theorem kMain:Tryz.pinned.checked.prog.mainIs = some (Rows.fnExactDeskCommandCard.stood.harness.1, Rows.fnExactDeskCommandCard.stood.harness.2.toList):=by kernel_rfl
theorem kG:aN.funcs.toList.any Func.goes = false:=by kernel_rfl
theorem kGo:false = Rows.fnExactDeskCommandRow.goesBy aN:=by
  have h : ∀g:FuncId, (aN.funcs[g]?).any Func.goes = false:=λg=>by
    cases hg:aN.funcs[g]? with
    | none=>rfl
    | some fn=>simpa using List.any_eq_false.1 kG fn (K8.2 (IE hg))
  have hc : ∀l:Γ FuncId, (l.any λg=>(aN.funcs[g]?).any Func.goes) = false:=λl=>List.any_eq_false.2 λg _=>by rw[h]; simp
  have hu:aN.funcs.any Func.goes = false:=by rw[<- Array.any_toList]; exact kG
  have hg:aN.goes 3 = false:=by unfold Program.goes; rw[hc, hu, Bool.and_false, Bool.or_false]
  have hf:aN.goesFrom Rows.fnExactDeskCommandRow.func = false:=by unfold Program.goesFrom; rw[kFun, Option.any_some]; exact hg
  unfold OpenClaim.goesBy Program.goesAt
  rw[hf, show Rows.fnExactDeskCommandRow.start = .entering from rfl]
  rfl
theorem kLook:true = Tryz.pinned.checked.prog.looks []:=by kernel_rfl
theorem plain(f : FuncId)(fn : Func)(hf : Tryz.pinned.checked.prog.funcNamed "loop.example/g01057/laws.FnExactDeskCommand" = some f)(hfn : Tryz.pinned.checked.prog.funcs[f]? = some fn) :
    true = Tryz.pinned.checked.prog.looks [] /\ ∀(j:Nat) t, fn.params[j]? = some t->Tryz.pinned.checked.prog.wantsStandIn t = false:=by
  obtain rfl:f = 3:=Option.some.inj (kFun.symm.trans hf) |>.symm
  obtain rfl:fn = LN:=(Option.some.inj (H7.symm.trans hfn)).symm
  refine⟨kLook, λj t ht=>?_⟩
  have hall:(LN.params.toList.all λu => !aN.wantsStandIn u) = true:=by kernel_rfl
  have:=List.all_eq_true.1 hall t (K8.2 (IE ht))
  exact(show aN.wantsStandIn t = false by simpa using this)
theorem proved:Rows.FnExactDeskCommandCardSaid :=
  Claim7.holds_tied_plain_at .later [] _ _ _ _ over (λ_ h=>by cases h) kWf (λ_ h=>by cases h) fnExactDeskCommand_row_tie rfl ⟨rfl, rfl⟩ kMain rfl plain kGo
#print axioms proved
end Go.Proofs.YtbaoaedmbhpolaaGreatDoor.fnExactDeskCommand
