/- Function 28: its runs between cut points. Written by a program of this repo (gen). -/
import Derived.Test.YtjoimmmpaocfkaaT
import Derived.Test.YtjoimmmpaocfkaaF45
set_option linter.unusedVariables false
set_option linter.unusedSimpArgs false
set_option maxRecDepth 100000
namespace Go.Proofs.Ytjoimmmpaocfkaa
open Go Go.Am Go.Proofs
def ext28 : Ext := [(45, S45)]
theorem call28_45 : Callable Try.prog 45 := ⟨Try.f45, Try.func45, by kernel_rfl, by kernel_rfl⟩
theorem ext28Ok : ExtOk Try.prog ext28 := ⟨⟨call28_45, con45⟩, trivial⟩
/-! Function 28. -/
noncomputable def b28 : Code := bodyOf Try.f28
theorem hb28 : Try.f28.body = some b28 := by kernel_rfl
def sig28 : List AT := [AT.v (.sl (.cons .str (.cons .str (.cons .str .unit)))),AT.v (.sl (.cons .str (.cons .str (.cons .str .unit))))]
def tys28 : List Ty := [.bool]
def P28 (x0 : List (ByteArray × ByteArray × ByteArray × Unit)) (x1 : List (ByteArray × ByteArray × ByteArray × Unit)) : Prop := True
def g28_0 (x0 : List (ByteArray × ByteArray × ByteArray × Unit)) (x1 : List (ByteArray × ByteArray × ByteArray × Unit)) : Bool := g45_0 x0 x1
theorem p28_0 (x0 : List (ByteArray × ByteArray × ByteArray × Unit)) (x1 : List (ByteArray × ByteArray × ByteArray × Unit)) : runF tab ext28 false 8 [] 2000 tys28 Try.f28.results [] [.code b28] (entE 0 sig28 (x0, x1, ())) [] = some ([Dyn.mk Ty.bool (g45_0 x0 x1)], [True]) := by kernel_rfl
theorem at28 (x0 : List (ByteArray × ByteArray × ByteArray × Unit)) (x1 : List (ByteArray × ByteArray × ByteArray × Unit)) (h : P28 x0 x1) (w0 : World) : AtV Try.prog 28 (PostR [⟨Ty.bool, g28_0 x0 x1⟩] w0) 8 w0 [] [.code b28] (entE 0 sig28 (x0, x1, ())) [] := by
  unfold P28 at h
  unfold g28_0
  exact AtV.fin Try.func28 tabOk ext28Ok mixed (p28_0 x0 x1) ⟨trivial, trivial⟩

def S28 : Am.Spec := { sig := sig28, pre := fun ⟨x0, x1, _⟩ => P28 x0 x1, res := fun ⟨x0, x1, _⟩ => [⟨Ty.bool, g28_0 x0 x1⟩] }
theorem con28 : Contract Try.prog 28 S28 := contract_of Try.func28 hb28 rfl (fun _ => rfl) (Nat.le_of_ble_eq_true (by kernel_rfl)) (fun ⟨x0, x1, _⟩ h _ w0 => at28 x0 x1 h w0)


end Go.Proofs.Ytjoimmmpaocfkaa
