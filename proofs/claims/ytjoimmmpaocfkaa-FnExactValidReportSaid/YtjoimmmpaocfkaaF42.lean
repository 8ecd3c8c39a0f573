/- Function 42 (impl.ValidReport$1): its runs between cut points. Written by a program of this repo (gen). -/
import Derived.Test.YtjoimmmpaocfkaaT
import Derived.Test.YtjoimmmpaocfkaaF43
set_option linter.unusedVariables false
set_option linter.unusedSimpArgs false
set_option maxRecDepth 100000
namespace Go.Proofs.Ytjoimmmpaocfkaa
open Go Go.Am Go.Proofs
def ext42 : Ext := [(43, S43)]
theorem call42_43 : Callable Try.prog 43 := ⟨Try.f43, Try.func43, by kernel_rfl, by kernel_rfl⟩
theorem ext42Ok : ExtOk Try.prog ext42 := ⟨⟨call42_43, con43⟩, trivial⟩
/-! Function 42. -/
noncomputable def b42 : Code := bodyOf Try.f42
theorem hb42 : Try.f42.body = some b42 := by kernel_rfl
def sig42 : List AT := [AT.v (Ty.str)]
def tys42 : List Ty := [Ty.bool]
def P42 (x0 : ByteArray) : Prop := True
def g42_0 (x0 : ByteArray) : Bool := !g43_0 x0
theorem p42_0 (x0 : ByteArray) : runF tab ext42 false 6 [] 2000 [] tys42 Try.f42.results [] [.code b42] (entE 0 0 sig42 (x0, ())) (entL sig42 (x0, ())) = some ([Dyn.mk Ty.bool !g43_0 x0], [], [True]) := by kernel_rfl
theorem at42 (x0 : ByteArray) (h : P42 x0) (w0 : World) (O : List Nat) (q : Nat → Value) : AtV Try.prog 42 (PostR [⟨Ty.bool, g42_0 x0⟩] [] [] q w0 O) 6 w0 O q [] [.code b42] (entE 0 0 sig42 (x0, ())) (entL sig42 (x0, ())) := by
  unfold P42 at h
  unfold g42_0
  exact AtV.fin Try.func42 tabOk ext42Ok mixed (p42_0 x0) ⟨trivial, trivial⟩

def S42 : Am.Spec := { sig := sig42, pre := fun ⟨x0, _⟩ => P42 x0, res := fun ⟨x0, _⟩ => [⟨Ty.bool, g42_0 x0⟩] }
theorem con42 : Contract Try.prog 42 S42 := contract_of Try.func42 hb42 (Nat.le_of_ble_eq_true (by kernel_rfl)) (fun ⟨x0, _⟩ h _ w0 O q => at42 x0 h w0 O q)


end Go.Proofs.Ytjoimmmpaocfkaa
