/- RunDesk: whatever the arguments, within the size that the law sets, the program answers as the specification says. -/
import Derived.Test.YtgfpjekjhnkbfaaGreatDoorZ3U
open Array renaming mem_of_getElem?->Hw,mem_toList_iff->KP
open Go.OpenSpec renaming ofChange->rU
open Go.Proofs.Tryz renaming checked->Pj,f3->Kr,func3->H0,prog->aL,underlying407->Ch,underlying409->Ci,underlying58->rV,underlying9->fZ
set_option maxRecDepth 100000
namespace Go.Proofs.YtgfpjekjhnkbfaaGreatDoor.fnExactRunDesk
open Go Go.Am Go.Proofs
open Go.ChangeShapes Go.WideShapes Go.ChangeAt Go.RowKit
theorem kWf:Rows.fnExactRunDeskRow.wfByText (rU Rows.fnExactRunDeskSpec) = true:=by kernel_rfl
theorem kMain:Tryz.pinned.checked.prog.mainIs = some (Rows.fnExactRunDeskCard.stood.harness.1, Rows.fnExactRunDeskCard.stood.harness.2.toList):=by kernel_rfl
theorem kG:aL.funcs.toList.any Func.goes = false:=by kernel_rfl
theorem kGo:false = Rows.fnExactRunDeskRow.goesBy aL:=by
  have h : ∀g:FuncId, (aL.funcs[g]?).any Func.goes = false:=λg=>by
    cases hg:aL.funcs[g]? with
    | none=>rfl
    | some fn=>simpa using List.any_eq_false.1 kG fn (KP.2 (Hw hg))
  have hc : ∀l:Γ FuncId, (l.any λg=>(aL.funcs[g]?).any Func.goes) = false:=λl=>List.any_eq_false.2 λg _=>by rw[h]; simp
  have hu:aL.funcs.any Func.goes = false:=by rw[<- Array.any_toList]; exact kG
  have hg:aL.goes 3 = false:=by unfold Program.goes; rw[hc, hu, Bool.and_false, Bool.or_false]
  have hf:aL.goesFrom Rows.fnExactRunDeskRow.func = false:=by unfold Program.goesFrom; rw[kFun, Option.any_some]; exact hg
  unfold OpenClaim.goesBy Program.goesAt
  rw[hf, show Rows.fnExactRunDeskRow.start = .entering from rfl]
  rfl
theorem kLook:true = Tryz.pinned.checked.prog.looks []:=by kernel_rfl
theorem plain(f : FuncId)(fn : Func)(hf : Tryz.pinned.checked.prog.funcNamed "loop.example/g01057/laws.FnExactRunDesk" = some f)(hfn : Tryz.pinned.checked.prog.funcs[f]? = some fn) :
    true = Tryz.pinned.checked.prog.looks [] /\ ∀(j:Nat) t, fn.params[j]? = some t->Tryz.pinned.checked.prog.wantsStandIn t = false:=by
  obtain rfl:f = 3:=Option.some.inj (kFun.symm.trans hf) |>.symm
  obtain rfl:fn = Kr:=(Option.some.inj (H0.symm.trans hfn)).symm
  refine⟨kLook, λj t ht=>?_⟩
  have hall:(Kr.params.toList.all λu => !aL.wantsStandIn u) = true:=by kernel_rfl
  have:=List.all_eq_true.1 hall t (KP.2 (Hw ht))
  exact(show aL.wantsStandIn t = false by simpa using this)
theorem proved:Rows.FnExactRunDeskCardSaid :=
  Claim7.holds_tied_plain_at .later [] _ _ _ _ over (λ_ h=>by cases h) kWf (λ_ h=>by cases h) fnExactRunDesk_row_tie rfl ⟨rfl, rfl⟩ kMain rfl plain kGo
#print axioms proved
end Go.Proofs.YtgfpjekjhnkbfaaGreatDoor.fnExactRunDesk
