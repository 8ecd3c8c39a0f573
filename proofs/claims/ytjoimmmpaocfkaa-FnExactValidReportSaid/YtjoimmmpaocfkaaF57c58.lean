/- Function 57 (slices.ContainsFunc[[]byte,byte]): its runs between cut points. Written by a program of this repo (gen). -/
import Derived.Test.YtjoimmmpaocfkaaT
import Derived.Test.YtjoimmmpaocfkaaF62c58
import Derived.Test.YtjoimmmpaocfkaaF58
set_option linter.unusedVariables false
set_option linter.unusedSimpArgs false
set_option maxRecDepth 100000
namespace Go.Proofs.Ytjoimmmpaocfkaa
open Go Go.Am Go.Proofs
def ext57c58 : Ext := [(62, S62c58), (58, S58)]
theorem call57c58_62 : Callable Try.prog 62 := ⟨Try.f62, Try.func62, by kernel_rfl, by kernel_rfl⟩
theorem call57c58_58 : Callable Try.prog 58 := ⟨Try.f58, Try.func58, by kernel_rfl, by kernel_rfl⟩
theorem ext57c58Ok : ExtOk Try.prog ext57c58 := ⟨⟨call57c58_62, con62c58⟩, ⟨call57c58_58, con58⟩, trivial⟩
/-! Function 57c58. -/
noncomputable def b57c58 : Code := bodyOf Try.f57
theorem hb57c58 : Try.f57.body = some b57c58 := by kernel_rfl
def sig57c58 : List AT := [AT.v (Ty.sl (Ty.int IntKind.u8)), AT.fn 58 []]
def tys57c58 : List Ty := [Ty.bool]
def P57c58 (x0 : List Int) : Prop := True
def g57c58_0 (x0 : List Int) : Bool := Decidable.decide (g62c58_0 x0 ≥ 0)
theorem p57c58_0 (x0 : List Int) : runF tab ext57c58 false 9 [] 2000 [] tys57c58 Try.f57.results [] [.code b57c58] (entE 0 0 sig57c58 (x0, (), ())) (entL sig57c58 (x0, (), ())) = some ([Dyn.mk Ty.bool (Decidable.decide (g62c58_0 x0 ≥ 0))], [], [True]) := by kernel_rfl
theorem at57c58 (x0 : List Int) (h : P57c58 x0) (w0 : World) (O : List Nat) (q : Nat → Value) : AtV Try.prog 57 (PostR [⟨Ty.bool, g57c58_0 x0⟩] [] [] q w0 O) 9 w0 O q [] [.code b57c58] (entE 0 0 sig57c58 (x0, (), ())) (entL sig57c58 (x0, (), ())) := by
  unfold P57c58 at h
  unfold g57c58_0
  exact AtV.fin Try.func57 tabOk ext57c58Ok mixed (p57c58_0 x0) ⟨trivial, trivial⟩

def S57c58 : Am.Spec := { sig := sig57c58, pre := fun ⟨x0, _⟩ => P57c58 x0, res := fun ⟨x0, _⟩ => [⟨Ty.bool, g57c58_0 x0⟩] }
theorem con57c58 : Contract Try.prog 57 S57c58 := contract_of Try.func57 hb57c58 (Nat.le_of_ble_eq_true (by kernel_rfl)) (fun ⟨x0, _⟩ h _ w0 O q => at57c58 x0 h w0 O q)


end Go.Proofs.Ytjoimmmpaocfkaa
