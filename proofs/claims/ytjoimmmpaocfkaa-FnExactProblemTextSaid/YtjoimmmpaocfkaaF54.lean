/- Function 54: its runs between cut points. Written by a program of this repo (gen). -/
import Derived.Test.YtjoimmmpaocfkaaT
set_option linter.unusedVariables false
set_option linter.unusedSimpArgs false
set_option maxRecDepth 100000
namespace Go.Proofs.Ytjoimmmpaocfkaa
open Go Go.Am Go.Proofs
def ext54 : Ext := []
theorem ext54Ok : ExtOk Try.prog ext54 := trivial
/-! Function 54. -/
noncomputable def b54 : Code := bodyOf Try.f54
theorem hb54 : Try.f54.body = some b54 := by kernel_rfl
def sig54 : List AT := [AT.v (Ty.int .i64),AT.v (Ty.int .i64),AT.v (Ty.int .i64)]
def tys54 : List Ty := [.bool]
def P54 (x0 : Int) (x1 : Int) (x2 : Int) : Prop := True
def g54_0 (x0 : Int) (x1 : Int) (x2 : Int) : Bool := (if (Decidable.decide (x0 ≥ x1)) = true then Decidable.decide (x0 ≤ x2) else Bool.false)
theorem p54_0 (x0 : Int) (x1 : Int) (x2 : Int) : runF tab ext54 false 15 [] 2000 [] tys54 Try.f54.results [true] [.code b54] (entE 0 0 sig54 (x0, x1, x2, ())) (entL sig54 (x0, x1, x2, ())) = some ([Dyn.mk Ty.bool (Decidable.decide (x0 ≤ x2))], [], [Decidable.decide (x0 ≥ x1) = Bool.true]) := by kernel_rfl
theorem p54_1 (x0 : Int) (x1 : Int) (x2 : Int) : runF tab ext54 false 15 [] 2000 [] tys54 Try.f54.results [false] [.code b54] (entE 0 0 sig54 (x0, x1, x2, ())) (entL sig54 (x0, x1, x2, ())) = some ([Dyn.mk Ty.bool Bool.false], [], [Decidable.decide (x0 ≥ x1) = Bool.false]) := by kernel_rfl
theorem at54 (x0 : Int) (x1 : Int) (x2 : Int) (h : P54 x0 x1 x2) (w0 : World) (O : List Nat) (q : Nat → Value) : AtV Try.prog 54 (PostR [⟨Ty.bool, g54_0 x0 x1 x2⟩] [] [] q w0 O) 15 w0 O q [] [.code b54] (entE 0 0 sig54 (x0, x1, x2, ())) (entL sig54 (x0, x1, x2, ())) := by
  unfold P54 at h
  unfold g54_0
  by_cases b0 : (Decidable.decide (x0 ≥ x1)) = true
  · try simp only [if_pos b0] at h ⊢
    exact AtV.fin Try.func54 tabOk ext54Ok mixed (p54_0 x0 x1 x2) ⟨b0, trivial⟩
  · try simp only [if_neg b0] at h ⊢
    replace b0 := Bool.eq_false_iff.2 b0
    exact AtV.fin Try.func54 tabOk ext54Ok mixed (p54_1 x0 x1 x2) ⟨b0, trivial⟩

def S54 : Am.Spec := { sig := sig54, pre := fun ⟨x0, x1, x2, _⟩ => P54 x0 x1 x2, res := fun ⟨x0, x1, x2, _⟩ => [⟨Ty.bool, g54_0 x0 x1 x2⟩] }
theorem con54 : Contract Try.prog 54 S54 := contract_of Try.func54 hb54 (Nat.le_of_ble_eq_true (by kernel_rfl)) (fun ⟨x0, x1, x2, _⟩ h _ w0 O q => at54 x0 x1 x2 h w0 O q)


end Go.Proofs.Ytjoimmmpaocfkaa
