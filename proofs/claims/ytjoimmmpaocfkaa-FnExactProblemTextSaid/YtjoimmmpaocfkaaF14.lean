/- Function 14: its runs between cut points. Written by a program of this repo (gen). -/
import Derived.Test.YtjoimmmpaocfkaaT
set_option linter.unusedVariables false
set_option linter.unusedSimpArgs false
set_option maxRecDepth 100000
namespace Go.Proofs.Ytjoimmmpaocfkaa
open Go Go.Am Go.Proofs
def ext14 : Ext := []
theorem ext14Ok : ExtOk Try.prog ext14 := trivial
/-! Function 14. -/
noncomputable def b14 : Code := bodyOf Try.f14
theorem hb14 : Try.f14.body = some b14 := by kernel_rfl
def sig14 : List AT := [AT.v (.cons (.int .i64) (.cons .str (.cons .str .unit)))]
def tys14 : List Ty := [(.cons (.int .i64) (.cons .str (.cons .str .unit)))]
def P14 (x0 : Int × ByteArray × ByteArray × Unit) : Prop := True
def g14_0 (x0 : Int × ByteArray × ByteArray × Unit) : Int × ByteArray × ByteArray × Unit := (Prod.fst x0, Prod.fst (Prod.snd x0), Prod.fst (Prod.snd (Prod.snd x0)), ())
theorem p14_0 (x0 : Int × ByteArray × ByteArray × Unit) : runF tab ext14 false 14 [] 2000 [] tys14 Try.f14.results [] [.code b14] (entE 0 0 sig14 (x0, ())) (entL sig14 (x0, ())) = some ([Dyn.mk (Ty.cons (Ty.int IntKind.i64) (Ty.cons Ty.str (Ty.cons Ty.str Ty.unit))) (Prod.fst x0, Prod.fst (Prod.snd x0), Prod.fst (Prod.snd (Prod.snd x0)), ())], [], []) := by kernel_rfl
theorem at14 (x0 : Int × ByteArray × ByteArray × Unit) (h : P14 x0) (w0 : World) (O : List Nat) (q : Nat → Value) : AtV Try.prog 14 (PostR [⟨Ty.cons (Ty.int IntKind.i64) (Ty.cons Ty.str (Ty.cons Ty.str Ty.unit)), g14_0 x0⟩] [] [] q w0 O) 14 w0 O q [] [.code b14] (entE 0 0 sig14 (x0, ())) (entL sig14 (x0, ())) := by
  unfold P14 at h
  unfold g14_0
  exact AtV.fin Try.func14 tabOk ext14Ok mixed (p14_0 x0) trivial

def S14 : Am.Spec := { sig := sig14, pre := fun ⟨x0, _⟩ => P14 x0, res := fun ⟨x0, _⟩ => [⟨Ty.cons (Ty.int IntKind.i64) (Ty.cons Ty.str (Ty.cons Ty.str Ty.unit)), g14_0 x0⟩] }
theorem con14 : Contract Try.prog 14 S14 := contract_of Try.func14 hb14 (Nat.le_of_ble_eq_true (by kernel_rfl)) (fun ⟨x0, _⟩ h _ w0 O q => at14 x0 h w0 O q)


end Go.Proofs.Ytjoimmmpaocfkaa
