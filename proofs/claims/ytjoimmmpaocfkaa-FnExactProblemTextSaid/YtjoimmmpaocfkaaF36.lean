/- Function 36: its runs between cut points. Written by a program of this repo (gen). -/
import Derived.Test.YtjoimmmpaocfkaaT
import Derived.Test.YtjoimmmpaocfkaaF53
set_option linter.unusedVariables false
set_option linter.unusedSimpArgs false
set_option maxRecDepth 100000
namespace Go.Proofs.Ytjoimmmpaocfkaa
open Go Go.Am Go.Proofs
def ext36 : Ext := [(53, S53)]
theorem call36_53 : Callable Try.prog 53 := ⟨Try.f53, Try.func53, by kernel_rfl, by kernel_rfl⟩
theorem ext36Ok : ExtOk Try.prog ext36 := ⟨⟨call36_53, con53⟩, trivial⟩
/-! Function 36. -/
noncomputable def b36 : Code := bodyOf Try.f36
theorem hb36 : Try.f36.body = some b36 := by kernel_rfl
def sig36 : List AT := [AT.v (Ty.int .i64)]
def tys36 : List Ty := [.bool]
def P36 (x0 : Int) : Prop := True
def g36_0 (x0 : Int) : Bool := g53_0 x0 1 6
theorem p36_0 (x0 : Int) : runF tab ext36 false 5 [] 2000 [] tys36 Try.f36.results [] [.code b36] (entE 0 0 sig36 (x0, ())) (entL sig36 (x0, ())) = some ([Dyn.mk Ty.bool (g53_0 x0 1 6)], [], [True]) := by kernel_rfl
theorem at36 (x0 : Int) (h : P36 x0) (w0 : World) (O : List Nat) (q : Nat → Value) : AtV Try.prog 36 (PostR [⟨Ty.bool, g36_0 x0⟩] [] [] q w0 O) 5 w0 O q [] [.code b36] (entE 0 0 sig36 (x0, ())) (entL sig36 (x0, ())) := by
  unfold P36 at h
  unfold g36_0
  exact AtV.fin Try.func36 tabOk ext36Ok mixed (p36_0 x0) ⟨trivial, trivial⟩

def S36 : Am.Spec := { sig := sig36, pre := fun ⟨x0, _⟩ => P36 x0, res := fun ⟨x0, _⟩ => [⟨Ty.bool, g36_0 x0⟩] }
theorem con36 : Contract Try.prog 36 S36 := contract_of Try.func36 hb36 (Nat.le_of_ble_eq_true (by kernel_rfl)) (fun ⟨x0, _⟩ h _ w0 O q => at36 x0 h w0 O q)


end Go.Proofs.Ytjoimmmpaocfkaa
