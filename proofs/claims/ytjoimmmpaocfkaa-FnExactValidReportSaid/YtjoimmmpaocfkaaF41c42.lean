/- Function 41 (slices.ContainsFunc[[]string,string]): its runs between cut points. Written by a program of this repo (gen). -/
import Derived.Test.YtjoimmmpaocfkaaT
import Derived.Test.YtjoimmmpaocfkaaF56c42
import Derived.Test.YtjoimmmpaocfkaaF42
set_option linter.unusedVariables false
set_option linter.unusedSimpArgs false
set_option maxRecDepth 100000
namespace Go.Proofs.Ytjoimmmpaocfkaa
open Go Go.Am Go.Proofs
def ext41c42 : Ext := [(56, S56c42), (42, S42)]
theorem call41c42_56 : Callable Try.prog 56 := ⟨Try.f56, Try.func56, by kernel_rfl, by kernel_rfl⟩
theorem call41c42_42 : Callable Try.prog 42 := ⟨Try.f42, Try.func42, by kernel_rfl, by kernel_rfl⟩
theorem ext41c42Ok : ExtOk Try.prog ext41c42 := ⟨⟨call41c42_56, con56c42⟩, ⟨call41c42_42, con42⟩, trivial⟩
/-! Function 41c42. -/
noncomputable def b41c42 : Code := bodyOf Try.f41
theorem hb41c42 : Try.f41.body = some b41c42 := by kernel_rfl
def sig41c42 : List AT := [AT.v (Ty.sl Ty.str), AT.fn 42 []]
def tys41c42 : List Ty := [Ty.bool]
def P41c42 (x0 : List ByteArray) : Prop := True
def g41c42_0 (x0 : List ByteArray) : Bool := Decidable.decide (g56c42_0 x0 ≥ 0)
theorem p41c42_0 (x0 : List ByteArray) : runF tab ext41c42 false 9 [] 2000 [] tys41c42 Try.f41.results [] [.code b41c42] (entE 0 0 sig41c42 (x0, (), ())) (entL sig41c42 (x0, (), ())) = some ([Dyn.mk Ty.bool (Decidable.decide (g56c42_0 x0 ≥ 0))], [], [True]) := by kernel_rfl
theorem at41c42 (x0 : List ByteArray) (h : P41c42 x0) (w0 : World) (O : List Nat) (q : Nat → Value) : AtV Try.prog 41 (PostR [⟨Ty.bool, g41c42_0 x0⟩] [] [] q w0 O) 9 w0 O q [] [.code b41c42] (entE 0 0 sig41c42 (x0, (), ())) (entL sig41c42 (x0, (), ())) := by
  unfold P41c42 at h
  unfold g41c42_0
  exact AtV.fin Try.func41 tabOk ext41c42Ok mixed (p41c42_0 x0) ⟨trivial, trivial⟩

def S41c42 : Am.Spec := { sig := sig41c42, pre := fun ⟨x0, _⟩ => P41c42 x0, res := fun ⟨x0, _⟩ => [⟨Ty.bool, g41c42_0 x0⟩] }
theorem con41c42 : Contract Try.prog 41 S41c42 := contract_of Try.func41 hb41c42 (Nat.le_of_ble_eq_true (by kernel_rfl)) (fun ⟨x0, _⟩ h _ w0 O q => at41c42 x0 h w0 O q)


end Go.Proofs.Ytjoimmmpaocfkaa
