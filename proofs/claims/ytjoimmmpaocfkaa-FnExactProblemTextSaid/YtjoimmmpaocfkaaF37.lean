/- Function 37: its runs between cut points. Written by a program of this repo (gen). -/
import Derived.Test.YtjoimmmpaocfkaaT
set_option linter.unusedVariables false
set_option linter.unusedSimpArgs false
set_option maxRecDepth 100000
namespace Go.Proofs.Ytjoimmmpaocfkaa
open Go Go.Am Go.Proofs
def ext37 : Ext := []
theorem ext37Ok : ExtOk Try.prog ext37 := trivial
/-! Function 37. -/
noncomputable def b37 : Code := bodyOf Try.f37
theorem hb37 : Try.f37.body = some b37 := by kernel_rfl
def sig37 : List AT := []
def tys37 : List Ty := [.sl .str]
def P37 : Prop := True
def g37_0 : List ByteArray := [ByteArray.mk #[], ByteArray.mk #[116, 114, 97, 99, 107], ByteArray.mk #[98, 114, 97, 107, 101], ByteArray.mk #[108, 111, 97, 100], ByteArray.mk #[99, 104, 101, 99, 107], ByteArray.mk #[116, 117, 114, 110], ByteArray.mk #[115, 101, 97, 108]]
theorem p37_0 : runF tab ext37 false 2 [] 2000 [] tys37 Try.f37.results [] [.code b37] (entE 0 0 sig37 ()) (entL sig37 ()) = some ([Dyn.mk (Ty.sl Ty.str) [ByteArray.mk #[], ByteArray.mk #[116, 114, 97, 99, 107], ByteArray.mk #[98, 114, 97, 107, 101], ByteArray.mk #[108, 111, 97, 100], ByteArray.mk #[99, 104, 101, 99, 107], ByteArray.mk #[116, 117, 114, 110], ByteArray.mk #[115, 101, 97, 108]]], [], []) := by kernel_rfl
theorem at37 (h : P37) (w0 : World) (O : List Nat) (q : Nat → Value) : AtV Try.prog 37 (PostR [⟨Ty.sl Ty.str, g37_0⟩] [] [] q w0 O) 2 w0 O q [] [.code b37] (entE 0 0 sig37 ()) (entL sig37 ()) := by
  unfold P37 at h
  unfold g37_0
  exact AtV.fin Try.func37 tabOk ext37Ok mixed (p37_0) trivial

def S37 : Am.Spec := { sig := sig37, pre := fun _ => P37, res := fun _ => [⟨Ty.sl Ty.str, g37_0⟩] }
theorem con37 : Contract Try.prog 37 S37 := contract_of Try.func37 hb37 (Nat.le_of_ble_eq_true (by kernel_rfl)) (fun _ h _ w0 O q => at37 h w0 O q)


end Go.Proofs.Ytjoimmmpaocfkaa
