/- Function 24 (impl.ValidReport): its runs between cut points. Written by a program of this repo (gen). -/
import Derived.Test.YtjoimmmpaocfkaaT
import Derived.Test.YtjoimmmpaocfkaaF41c42
set_option linter.unusedVariables false
set_option linter.unusedSimpArgs false
set_option maxRecDepth 100000
namespace Go.Proofs.Ytjoimmmpaocfkaa
open Go Go.Am Go.Proofs
def ext24 : Ext := [(41, S41c42)]
theorem call24_41 : Callable Try.prog 41 := ⟨Try.f41, Try.func41, by kernel_rfl, by kernel_rfl⟩
theorem ext24Ok : ExtOk Try.prog ext24 := ⟨⟨call24_41, con41c42⟩, trivial⟩
/-! Function 24. -/
noncomputable def b24 : Code := bodyOf Try.f24
theorem hb24 : Try.f24.body = some b24 := by kernel_rfl
def sig24 : List AT := [AT.v (Ty.sl Ty.str)]
def tys24 : List Ty := [Ty.bool]
def P24 (x0 : List ByteArray) : Prop := True
def g24_0 (x0 : List ByteArray) : Bool := (if (Decidable.decide ((↑(List.length x0) : Int) ≤ 200)) = true then !g41c42_0 x0 else Bool.false)
theorem p24_0 (x0 : List ByteArray) : runF tab ext24 false 11 [] 2000 [] tys24 Try.f24.results [true] [.code b24] (entE 0 0 sig24 (x0, ())) (entL sig24 (x0, ())) = some ([Dyn.mk Ty.bool !g41c42_0 x0], [], [Decidable.decide ((↑(List.length x0) : Int) ≤ 200) = Bool.true, True]) := by kernel_rfl
theorem p24_1 (x0 : List ByteArray) : runF tab ext24 false 11 [] 2000 [] tys24 Try.f24.results [false] [.code b24] (entE 0 0 sig24 (x0, ())) (entL sig24 (x0, ())) = some ([Dyn.mk Ty.bool Bool.false], [], [Decidable.decide ((↑(List.length x0) : Int) ≤ 200) = Bool.false]) := by kernel_rfl
theorem at24 (x0 : List ByteArray) (h : P24 x0) (w0 : World) (O : List Nat) (q : Nat → Value) : AtV Try.prog 24 (PostR [⟨Ty.bool, g24_0 x0⟩] [] [] q w0 O) 11 w0 O q [] [.code b24] (entE 0 0 sig24 (x0, ())) (entL sig24 (x0, ())) := by
  unfold P24 at h
  unfold g24_0
  by_cases b0 : (Decidable.decide ((↑(List.length x0) : Int) ≤ 200)) = true
  · try simp only [if_pos b0] at h ⊢
    exact AtV.fin Try.func24 tabOk ext24Ok mixed (p24_0 x0) ⟨b0, trivial, trivial⟩
  · try simp only [if_neg b0] at h ⊢
    replace b0 := Bool.eq_false_iff.2 b0
    exact AtV.fin Try.func24 tabOk ext24Ok mixed (p24_1 x0) ⟨b0, trivial⟩

def S24 : Am.Spec := { sig := sig24, pre := fun ⟨x0, _⟩ => P24 x0, res := fun ⟨x0, _⟩ => [⟨Ty.bool, g24_0 x0⟩] }
theorem con24 : Contract Try.prog 24 S24 := contract_of Try.func24 hb24 (Nat.le_of_ble_eq_true (by kernel_rfl)) (fun ⟨x0, _⟩ h _ w0 O q => at24 x0 h w0 O q)


end Go.Proofs.Ytjoimmmpaocfkaa
