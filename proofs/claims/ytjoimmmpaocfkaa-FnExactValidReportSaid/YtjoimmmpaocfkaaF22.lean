/- Function 22 (spec.ValidReport): its runs between cut points. Written by a program of this repo (gen). -/
import Derived.Test.YtjoimmmpaocfkaaT
import Derived.Test.YtjoimmmpaocfkaaF40
set_option linter.unusedVariables false
set_option linter.unusedSimpArgs false
set_option maxRecDepth 100000
namespace Go.Proofs.Ytjoimmmpaocfkaa
open Go Go.Am Go.Proofs
def ext22 : Ext := [(40, S40)]
theorem call22_40 : Callable Try.prog 40 := ⟨Try.f40, Try.func40, by kernel_rfl, by kernel_rfl⟩
theorem ext22Ok : ExtOk Try.prog ext22 := ⟨⟨call22_40, con40⟩, trivial⟩
/-! Function 22. -/
noncomputable def b22 : Code := bodyOf Try.f22
theorem hb22 : Try.f22.body = some b22 := by kernel_rfl
def sig22 : List AT := [AT.v (Ty.sl Ty.str)]
def tys22 : List Ty := [Ty.bool]
def P22 (x0 : List ByteArray) : Prop := True
def g22_0 (x0 : List ByteArray) : Bool := g40_0 x0
theorem p22_0 (x0 : List ByteArray) : runF tab ext22 false 5 [] 2000 [] tys22 Try.f22.results [] [.code b22] (entE 0 0 sig22 (x0, ())) (entL sig22 (x0, ())) = some ([Dyn.mk Ty.bool (g40_0 x0)], [], [True]) := by kernel_rfl
theorem at22 (x0 : List ByteArray) (h : P22 x0) (w0 : World) (O : List Nat) (q : Nat → Value) : AtV Try.prog 22 (PostR [⟨Ty.bool, g22_0 x0⟩] [] [] q w0 O) 5 w0 O q [] [.code b22] (entE 0 0 sig22 (x0, ())) (entL sig22 (x0, ())) := by
  unfold P22 at h
  unfold g22_0
  exact AtV.fin Try.func22 tabOk ext22Ok mixed (p22_0 x0) ⟨trivial, trivial⟩

def S22 : Am.Spec := { sig := sig22, pre := fun ⟨x0, _⟩ => P22 x0, res := fun ⟨x0, _⟩ => [⟨Ty.bool, g22_0 x0⟩] }
theorem con22 : Contract Try.prog 22 S22 := contract_of Try.func22 hb22 (Nat.le_of_ble_eq_true (by kernel_rfl)) (fun ⟨x0, _⟩ h _ w0 O q => at22 x0 h w0 O q)


end Go.Proofs.Ytjoimmmpaocfkaa
