/- Function 38: its runs between cut points. Written by a program of this repo (gen). -/
import Derived.Test.YtjoimmmpaocfkaaT
import Derived.Test.YtjoimmmpaocfkaaF54
set_option linter.unusedVariables false
set_option linter.unusedSimpArgs false
set_option maxRecDepth 100000
namespace Go.Proofs.Ytjoimmmpaocfkaa
open Go Go.Am Go.Proofs
def ext38 : Ext := [(54, S54)]
theorem call38_54 : Callable Try.prog 54 := ⟨Try.f54, Try.func54, by kernel_rfl, by kernel_rfl⟩
theorem ext38Ok : ExtOk Try.prog ext38 := ⟨⟨call38_54, con54⟩, trivial⟩
/-! Function 38. -/
noncomputable def b38 : Code := bodyOf Try.f38
theorem hb38 : Try.f38.body = some b38 := by kernel_rfl
def sig38 : List AT := [AT.v (Ty.int .i64)]
def tys38 : List Ty := [.bool]
def P38 (x0 : Int) : Prop := True
def g38_0 (x0 : Int) : Bool := g54_0 x0 1 6
theorem p38_0 (x0 : Int) : runF tab ext38 false 5 [] 2000 [] tys38 Try.f38.results [] [.code b38] (entE 0 0 sig38 (x0, ())) (entL sig38 (x0, ())) = some ([Dyn.mk Ty.bool (g54_0 x0 1 6)], [], [True]) := by kernel_rfl
theorem at38 (x0 : Int) (h : P38 x0) (w0 : World) (O : List Nat) (q : Nat → Value) : AtV Try.prog 38 (PostR [⟨Ty.bool, g38_0 x0⟩] [] [] q w0 O) 5 w0 O q [] [.code b38] (entE 0 0 sig38 (x0, ())) (entL sig38 (x0, ())) := by
  unfold P38 at h
  unfold g38_0
  exact AtV.fin Try.func38 tabOk ext38Ok mixed (p38_0 x0) ⟨trivial, trivial⟩

def S38 : Am.Spec := { sig := sig38, pre := fun ⟨x0, _⟩ => P38 x0, res := fun ⟨x0, _⟩ => [⟨Ty.bool, g38_0 x0⟩] }
theorem con38 : Contract Try.prog 38 S38 := contract_of Try.func38 hb38 (Nat.le_of_ble_eq_true (by kernel_rfl)) (fun ⟨x0, _⟩ h _ w0 O q => at38 x0 h w0 O q)


end Go.Proofs.Ytjoimmmpaocfkaa
