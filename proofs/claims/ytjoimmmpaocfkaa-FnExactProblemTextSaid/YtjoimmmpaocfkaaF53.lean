/- Function 53: its runs between cut points. Written by a program of this repo (gen). -/
import Derived.Test.YtjoimmmpaocfkaaT
set_option linter.unusedVariables false
set_option linter.unusedSimpArgs false
set_option maxRecDepth 100000
namespace Go.Proofs.Ytjoimmmpaocfkaa
open Go Go.Am Go.Proofs
def ext53 : Ext := []
theorem ext53Ok : ExtOk Try.prog ext53 := trivial
/-! Function 53. -/
noncomputable def b53 : Code := bodyOf Try.f53
theorem hb53 : Try.f53.body = some b53 := by kernel_rfl
def sig53 : List AT := [AT.v (Ty.int .i64),AT.v (Ty.int .i64),AT.v (Ty.int .i64)]
def tys53 : List Ty := [.bool]
def P53 (x0 : Int) (x1 : Int) (x2 : Int) : Prop := True
def g53_0 (x0 : Int) (x1 : Int) (x2 : Int) : Bool := (if (Decidable.decide (x0 ≥ x1)) = true then Decidable.decide (x0 ≤ x2) else Bool.false)
theorem p53_0 (x0 : Int) (x1 : Int) (x2 : Int) : runF tab ext53 false 15 [] 2000 [] tys53 Try.f53.results [true] [.code b53] (entE 0 0 sig53 (x0, x1, x2, ())) (entL sig53 (x0, x1, x2, ())) = some ([Dyn.mk Ty.bool (Decidable.decide (x0 ≤ x2))], [], [Decidable.decide (x0 ≥ x1) = Bool.true]) := by kernel_rfl
theorem p53_1 (x0 : Int) (x1 : Int) (x2 : Int) : runF tab ext53 false 15 [] 2000 [] tys53 Try.f53.results [false] [.code b53] (entE 0 0 sig53 (x0, x1, x2, ())) (entL sig53 (x0, x1, x2, ())) = some ([Dyn.mk Ty.bool Bool.false], [], [Decidable.decide (x0 ≥ x1) = Bool.false]) := by kernel_rfl
theorem at53 (x0 : Int) (x1 : Int) (x2 : Int) (h : P53 x0 x1 x2) (w0 : World) (O : List Nat) (q : Nat → Value) : AtV Try.prog 53 (PostR [⟨Ty.bool, g53_0 x0 x1 x2⟩] [] [] q w0 O) 15 w0 O q [] [.code b53] (entE 0 0 sig53 (x0, x1, x2, ())) (entL sig53 (x0, x1, x2, ())) := by
  unfold P53 at h
  unfold g53_0
  by_cases b0 : (Decidable.decide (x0 ≥ x1)) = true
  · try simp only [if_pos b0] at h ⊢
    exact AtV.fin Try.func53 tabOk ext53Ok mixed (p53_0 x0 x1 x2) ⟨b0, trivial⟩
  · try simp only [if_neg b0] at h ⊢
    replace b0 := Bool.eq_false_iff.2 b0
    exact AtV.fin Try.func53 tabOk ext53Ok mixed (p53_1 x0 x1 x2) ⟨b0, trivial⟩

def S53 : Am.Spec := { sig := sig53, pre := fun ⟨x0, x1, x2, _⟩ => P53 x0 x1 x2, res := fun ⟨x0, x1, x2, _⟩ => [⟨Ty.bool, g53_0 x0 x1 x2⟩] }
theorem con53 : Contract Try.prog 53 S53 := contract_of Try.func53 hb53 (Nat.le_of_ble_eq_true (by kernel_rfl)) (fun ⟨x0, x1, x2, _⟩ h _ w0 O q => at53 x0 x1 x2 h w0 O q)


end Go.Proofs.Ytjoimmmpaocfkaa
