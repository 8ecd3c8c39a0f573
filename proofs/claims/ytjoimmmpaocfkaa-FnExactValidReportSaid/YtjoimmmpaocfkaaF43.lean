/- Function 43 (impl.isReportLine): its runs between cut points. Written by a program of this repo (gen). -/
import Derived.Test.YtjoimmmpaocfkaaT
import Derived.Test.YtjoimmmpaocfkaaF57c58
set_option linter.unusedVariables false
set_option linter.unusedSimpArgs false
set_option maxRecDepth 100000
namespace Go.Proofs.Ytjoimmmpaocfkaa
open Go Go.Am Go.Proofs
def ext43 : Ext := [(57, S57c58)]
theorem call43_57 : Callable Try.prog 57 := ⟨Try.f57, Try.func57, by kernel_rfl, by kernel_rfl⟩
theorem ext43Ok : ExtOk Try.prog ext43 := ⟨⟨call43_57, con57c58⟩, trivial⟩
/-! Function 43. -/
noncomputable def b43 : Code := bodyOf Try.f43
theorem hb43 : Try.f43.body = some b43 := by kernel_rfl
def sig43 : List AT := [AT.v (Ty.str)]
def tys43 : List Ty := [Ty.bool]
def P43 (x0 : ByteArray) : Prop := True
def g43_0 (x0 : ByteArray) : Bool := (if (Decidable.decide ((↑(ByteArray.size x0) : Int) ≤ 100)) = true then !g57c58_0 (bytesOf x0) else Bool.false)
theorem p43_0 (x0 : ByteArray) : runF tab ext43 false 12 [] 2000 [] tys43 Try.f43.results [true] [.code b43] (entE 0 0 sig43 (x0, ())) (entL sig43 (x0, ())) = some ([Dyn.mk Ty.bool !g57c58_0 (bytesOf x0)], [], [Decidable.decide ((↑(ByteArray.size x0) : Int) ≤ 100) = Bool.true, True]) := by kernel_rfl
theorem p43_1 (x0 : ByteArray) : runF tab ext43 false 12 [] 2000 [] tys43 Try.f43.results [false] [.code b43] (entE 0 0 sig43 (x0, ())) (entL sig43 (x0, ())) = some ([Dyn.mk Ty.bool Bool.false], [], [Decidable.decide ((↑(ByteArray.size x0) : Int) ≤ 100) = Bool.false]) := by kernel_rfl
theorem at43 (x0 : ByteArray) (h : P43 x0) (w0 : World) (O : List Nat) (q : Nat → Value) : AtV Try.prog 43 (PostR [⟨Ty.bool, g43_0 x0⟩] [] [] q w0 O) 12 w0 O q [] [.code b43] (entE 0 0 sig43 (x0, ())) (entL sig43 (x0, ())) := by
  unfold P43 at h
  unfold g43_0
  by_cases b0 : (Decidable.decide ((↑(ByteArray.size x0) : Int) ≤ 100)) = true
  · try simp only [if_pos b0] at h ⊢
    exact AtV.fin Try.func43 tabOk ext43Ok mixed (p43_0 x0) ⟨b0, trivial, trivial⟩
  · try simp only [if_neg b0] at h ⊢
    replace b0 := Bool.eq_false_iff.2 b0
    exact AtV.fin Try.func43 tabOk ext43Ok mixed (p43_1 x0) ⟨b0, trivial⟩

def S43 : Am.Spec := { sig := sig43, pre := fun ⟨x0, _⟩ => P43 x0, res := fun ⟨x0, _⟩ => [⟨Ty.bool, g43_0 x0⟩] }
theorem con43 : Contract Try.prog 43 S43 := contract_of Try.func43 hb43 (Nat.le_of_ble_eq_true (by kernel_rfl)) (fun ⟨x0, _⟩ h _ w0 O q => at43 x0 h w0 O q)


end Go.Proofs.Ytjoimmmpaocfkaa
