/- Function 34: its runs between cut points. Written by a program of this repo (gen). -/
import Derived.Test.YtjoimmmpaocfkaaT
set_option linter.unusedVariables false
set_option linter.unusedSimpArgs false
set_option maxRecDepth 100000
namespace Go.Proofs.Ytjoimmmpaocfkaa
open Go Go.Am Go.Proofs
def ext34 : Ext := []
theorem ext34Ok : ExtOk Try.prog ext34 := trivial
/-! Function 34. -/
noncomputable def b34 : Code := bodyOf Try.f34
theorem hb34 : Try.f34.body = some b34 := by kernel_rfl
def sig34 : List AT := [AT.v (.cons .str (.cons .str (.cons .str .unit)))]
def tys34 : List Ty := [(.cons .str (.cons .str (.cons .str .unit)))]
def P34 (x0 : ByteArray × ByteArray × ByteArray × Unit) : Prop := True
def g34_0 (x0 : ByteArray × ByteArray × ByteArray × Unit) : ByteArray × ByteArray × ByteArray × Unit := (Prod.fst x0, Prod.fst (Prod.snd x0), Prod.fst (Prod.snd (Prod.snd x0)), ())
theorem p34_0 (x0 : ByteArray × ByteArray × ByteArray × Unit) : runF tab ext34 false 14 [] 2000 tys34 Try.f34.results [] [.code b34] (entE 0 sig34 (x0, ())) [] = some ([Dyn.mk (Ty.cons Ty.str (Ty.cons Ty.str (Ty.cons Ty.str Ty.unit))) (Prod.fst x0, Prod.fst (Prod.snd x0), Prod.fst (Prod.snd (Prod.snd x0)), ())], []) := by kernel_rfl
theorem at34 (x0 : ByteArray × ByteArray × ByteArray × Unit) (h : P34 x0) (w0 : World) : AtV Try.prog 34 (PostR [⟨Ty.cons Ty.str (Ty.cons Ty.str (Ty.cons Ty.str Ty.unit)), g34_0 x0⟩] w0) 14 w0 [] [.code b34] (entE 0 sig34 (x0, ())) [] := by
  unfold P34 at h
  unfold g34_0
  exact AtV.fin Try.func34 tabOk ext34Ok mixed (p34_0 x0) trivial

def S34 : Am.Spec := { sig := sig34, pre := fun ⟨x0, _⟩ => P34 x0, res := fun ⟨x0, _⟩ => [⟨Ty.cons Ty.str (Ty.cons Ty.str (Ty.cons Ty.str Ty.unit)), g34_0 x0⟩] }
theorem con34 : Contract Try.prog 34 S34 := contract_of Try.func34 hb34 rfl (fun _ => rfl) (Nat.le_of_ble_eq_true (by kernel_rfl)) (fun ⟨x0, _⟩ h _ w0 => at34 x0 h w0)


end Go.Proofs.Ytjoimmmpaocfkaa
