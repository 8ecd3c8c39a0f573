/- Function 26: its runs between cut points. Written by a program of this repo (gen). -/
import Derived.Test.YtjoimmmpaocfkaaT
import Derived.Test.YtjoimmmpaocfkaaF44
set_option linter.unusedVariables false
set_option linter.unusedSimpArgs false
set_option maxRecDepth 100000
namespace Go.Proofs.Ytjoimmmpaocfkaa
open Go Go.Am Go.Proofs
def ext26 : Ext := [(44, S44)]
theorem call26_44 : Callable Try.prog 44 := ⟨Try.f44, Try.func44, by kernel_rfl, by kernel_rfl⟩
theorem ext26Ok : ExtOk Try.prog ext26 := ⟨⟨call26_44, con44⟩, trivial⟩
/-! Function 26. -/
noncomputable def b26 : Code := bodyOf Try.f26
theorem hb26 : Try.f26.body = some b26 := by kernel_rfl
def sig26 : List AT := [AT.v (.sl (.cons .str (.cons .str (.cons .str .unit)))),AT.v (.sl (.cons .str (.cons .str (.cons .str .unit))))]
def tys26 : List Ty := [.bool]
def P26 (x0 : List (ByteArray × ByteArray × ByteArray × Unit)) (x1 : List (ByteArray × ByteArray × ByteArray × Unit)) : Prop := True
def g26_0 (x0 : List (ByteArray × ByteArray × ByteArray × Unit)) (x1 : List (ByteArray × ByteArray × ByteArray × Unit)) : Bool := g44_0 x0 x1
theorem p26_0 (x0 : List (ByteArray × ByteArray × ByteArray × Unit)) (x1 : List (ByteArray × ByteArray × ByteArray × Unit)) : runF tab ext26 false 8 [] 2000 tys26 Try.f26.results [] [.code b26] (entE 0 sig26 (x0, x1, ())) [] = some ([Dyn.mk Ty.bool (g44_0 x0 x1)], [True]) := by kernel_rfl
theorem at26 (x0 : List (ByteArray × ByteArray × ByteArray × Unit)) (x1 : List (ByteArray × ByteArray × ByteArray × Unit)) (h : P26 x0 x1) (w0 : World) : AtV Try.prog 26 (PostR [⟨Ty.bool, g26_0 x0 x1⟩] w0) 8 w0 [] [.code b26] (entE 0 sig26 (x0, x1, ())) [] := by
  unfold P26 at h
  unfold g26_0
  exact AtV.fin Try.func26 tabOk ext26Ok mixed (p26_0 x0 x1) ⟨trivial, trivial⟩

def S26 : Am.Spec := { sig := sig26, pre := fun ⟨x0, x1, _⟩ => P26 x0 x1, res := fun ⟨x0, x1, _⟩ => [⟨Ty.bool, g26_0 x0 x1⟩] }
theorem con26 : Contract Try.prog 26 S26 := contract_of Try.func26 hb26 rfl (fun _ => rfl) (Nat.le_of_ble_eq_true (by kernel_rfl)) (fun ⟨x0, x1, _⟩ h _ w0 => at26 x0 x1 h w0)


end Go.Proofs.Ytjoimmmpaocfkaa
