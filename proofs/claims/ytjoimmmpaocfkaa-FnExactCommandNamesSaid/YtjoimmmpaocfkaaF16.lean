/- Function 16: its runs between cut points. Written by a program of this repo (gen). -/
import Derived.Test.YtjoimmmpaocfkaaT
set_option linter.unusedVariables false
set_option linter.unusedSimpArgs false
set_option maxRecDepth 100000
namespace Go.Proofs.Ytjoimmmpaocfkaa
open Go Go.Am Go.Proofs
def ext16 : Ext := []
theorem ext16Ok : ExtOk Try.prog ext16 := trivial
/-! Function 16. -/
noncomputable def b16 : Code := bodyOf Try.f16
theorem hb16 : Try.f16.body = some b16 := by kernel_rfl
def sig16 : List AT := []
def tys16 : List Ty := [.sl .str]
def P16 : Prop := True
def g16_0 : List ByteArray := [ByteArray.mk #[98, 97, 115, 105, 110], ByteArray.mk #[98, 101, 110, 100], ByteArray.mk #[99, 111, 118, 101, 114], ByteArray.mk #[100, 117, 101], ByteArray.mk #[101, 118, 101, 110, 116], ByteArray.mk #[102, 97, 114, 101], ByteArray.mk #[102, 105, 108, 108], ByteArray.mk #[104, 101, 108, 112], ByteArray.mk #[104, 101, 108, 112, 101, 114], ByteArray.mk #[104, 111, 117, 114], ByteArray.mk #[108, 105, 109, 105, 116], ByteArray.mk #[109, 111, 116, 111, 114], ByteArray.mk #[112, 111, 119, 101, 114], ByteArray.mk #[113, 117, 101, 117, 101], ByteArray.mk #[114, 101, 112, 111, 114, 116], ByteArray.mk #[114, 101, 115, 101, 114, 118, 101], ByteArray.mk #[114, 111, 112, 101], ByteArray.mk #[114, 117, 110, 110, 105, 110, 103], ByteArray.mk #[115, 104, 111, 119], ByteArray.mk #[115, 108, 111, 119, 101, 115, 116], ByteArray.mk #[116, 97, 115, 107], ByteArray.mk #[116, 101, 115, 116], ByteArray.mk #[116, 114, 105, 112, 115], ByteArray.mk #[118, 111, 116, 101], ByteArray.mk #[119, 97, 116, 101, 114], ByteArray.mk #[119, 111, 114, 107, 101, 114]]
theorem p16_0 : runF tab ext16 false 2 [] 2000 [] tys16 Try.f16.results [] [.code b16] (entE 0 0 sig16 ()) (entL sig16 ()) = some ([Dyn.mk (Ty.sl Ty.str) [ByteArray.mk #[98, 97, 115, 105, 110], ByteArray.mk #[98, 101, 110, 100], ByteArray.mk #[99, 111, 118, 101, 114], ByteArray.mk #[100, 117, 101], ByteArray.mk #[101, 118, 101, 110, 116], ByteArray.mk #[102, 97, 114, 101], ByteArray.mk #[102, 105, 108, 108], ByteArray.mk #[104, 101, 108, 112], ByteArray.mk #[104, 101, 108, 112, 101, 114], ByteArray.mk #[104, 111, 117, 114], ByteArray.mk #[108, 105, 109, 105, 116], ByteArray.mk #[109, 111, 116, 111, 114], ByteArray.mk #[112, 111, 119, 101, 114], ByteArray.mk #[113, 117, 101, 117, 101], ByteArray.mk #[114, 101, 112, 111, 114, 116], ByteArray.mk #[114, 101, 115, 101, 114, 118, 101], ByteArray.mk #[114, 111, 112, 101], ByteArray.mk #[114, 117, 110, 110, 105, 110, 103], ByteArray.mk #[115, 104, 111, 119], ByteArray.mk #[115, 108, 111, 119, 101, 115, 116], ByteArray.mk #[116, 97, 115, 107], ByteArray.mk #[116, 101, 115, 116], ByteArray.mk #[116, 114, 105, 112, 115], ByteArray.mk #[118, 111, 116, 101], ByteArray.mk #[119, 97, 116, 101, 114], ByteArray.mk #[119, 111, 114, 107, 101, 114]]], [], []) := by kernel_rfl
theorem at16 (h : P16) (w0 : World) (O : List Nat) (q : Nat → Value) : AtV Try.prog 16 (PostR [⟨Ty.sl Ty.str, g16_0⟩] [] [] q w0 O) 2 w0 O q [] [.code b16] (entE 0 0 sig16 ()) (entL sig16 ()) := by
  unfold P16 at h
  unfold g16_0
  exact AtV.fin Try.func16 tabOk ext16Ok mixed (p16_0) trivial

def S16 : Am.Spec := { sig := sig16, pre := fun _ => P16, res := fun _ => [⟨Ty.sl Ty.str, g16_0⟩] }
theorem con16 : Contract Try.prog 16 S16 := contract_of Try.func16 hb16 (Nat.le_of_ble_eq_true (by kernel_rfl)) (fun _ h _ w0 O q => at16 h w0 O q)


end Go.Proofs.Ytjoimmmpaocfkaa
