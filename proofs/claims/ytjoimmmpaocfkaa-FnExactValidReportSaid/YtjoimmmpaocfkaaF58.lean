/- Function 58 (impl.isReportLine$1): its runs between cut points. Written by a program of this repo (gen). -/
import Derived.Test.YtjoimmmpaocfkaaT
set_option linter.unusedVariables false
set_option linter.unusedSimpArgs false
set_option maxRecDepth 100000
namespace Go.Proofs.Ytjoimmmpaocfkaa
open Go Go.Am Go.Proofs
def ext58 : Ext := []
theorem ext58Ok : ExtOk Try.prog ext58 := trivial
/-! Function 58. -/
noncomputable def b58 : Code := bodyOf Try.f58
theorem hb58 : Try.f58.body = some b58 := by kernel_rfl
def sig58 : List AT := [AT.v (Ty.int IntKind.u8)]
def tys58 : List Ty := [Ty.bool]
def P58 (x0 : Int) : Prop := True
def g58_0 (x0 : Int) : Bool := (if (Decidable.decide (x0 < 32)) = true then Bool.true else Decidable.decide (x0 > 126))
theorem p58_0 (x0 : Int) : runF tab ext58 false 9 [] 2000 [] tys58 Try.f58.results [true] [.code b58] (entE 0 0 sig58 (x0, ())) (entL sig58 (x0, ())) = some ([Dyn.mk Ty.bool Bool.true], [], [Decidable.decide (x0 < 32) = Bool.true]) := by kernel_rfl
theorem p58_1 (x0 : Int) : runF tab ext58 false 9 [] 2000 [] tys58 Try.f58.results [false] [.code b58] (entE 0 0 sig58 (x0, ())) (entL sig58 (x0, ())) = some ([Dyn.mk Ty.bool (Decidable.decide (x0 > 126))], [], [Decidable.decide (x0 < 32) = Bool.false]) := by kernel_rfl
theorem at58 (x0 : Int) (h : P58 x0) (w0 : World) (O : List Nat) (q : Nat → Value) : AtV Try.prog 58 (PostR [⟨Ty.bool, g58_0 x0⟩] [] [] q w0 O) 9 w0 O q [] [.code b58] (entE 0 0 sig58 (x0, ())) (entL sig58 (x0, ())) := by
  unfold P58 at h
  unfold g58_0
  by_cases b0 : (Decidable.decide (x0 < 32)) = true
  · try simp only [if_pos b0] at h ⊢
    exact AtV.fin Try.func58 tabOk ext58Ok mixed (p58_0 x0) ⟨b0, trivial⟩
  · try simp only [if_neg b0] at h ⊢
    replace b0 := Bool.eq_false_iff.2 b0
    exact AtV.fin Try.func58 tabOk ext58Ok mixed (p58_1 x0) ⟨b0, trivial⟩

def S58 : Am.Spec := { sig := sig58, pre := fun ⟨x0, _⟩ => P58 x0, res := fun ⟨x0, _⟩ => [⟨Ty.bool, g58_0 x0⟩] }
theorem con58 : Contract Try.prog 58 S58 := contract_of Try.func58 hb58 (Nat.le_of_ble_eq_true (by kernel_rfl)) (fun ⟨x0, _⟩ h _ w0 O q => at58 x0 h w0 O q)


end Go.Proofs.Ytjoimmmpaocfkaa
