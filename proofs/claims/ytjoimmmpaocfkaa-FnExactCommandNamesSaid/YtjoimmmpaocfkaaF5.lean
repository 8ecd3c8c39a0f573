/- Function 5: its runs between cut points. Written by a program of this repo (gen). -/
import Derived.Test.YtjoimmmpaocfkaaT
import Derived.Test.YtjoimmmpaocfkaaF16
import Derived.Test.YtjoimmmpaocfkaaF17
import Derived.Test.YtjoimmmpaocfkaaF18
import Derived.Test.YtjoimmmpaocfkaaF19
import Derived.Test.YtjoimmmpaocfkaaF20
set_option linter.unusedVariables false
set_option linter.unusedSimpArgs false
set_option maxRecDepth 100000
namespace Go.Proofs.Ytjoimmmpaocfkaa
open Go Go.Am Go.Proofs
def ext5 : Ext := [(16, S16), (17, S17), (18, S18), (19, S19), (20, S20)]
theorem call5_16 : Callable Try.prog 16 := ⟨Try.f16, Try.func16, by kernel_rfl, by kernel_rfl⟩
theorem call5_17 : Callable Try.prog 17 := ⟨Try.f17, Try.func17, by kernel_rfl, by kernel_rfl⟩
theorem call5_18 : Callable Try.prog 18 := ⟨Try.f18, Try.func18, by kernel_rfl, by kernel_rfl⟩
theorem call5_19 : Callable Try.prog 19 := ⟨Try.f19, Try.func19, by kernel_rfl, by kernel_rfl⟩
theorem call5_20 : Callable Try.prog 20 := ⟨Try.f20, Try.func20, by kernel_rfl, by kernel_rfl⟩
theorem ext5Ok : ExtOk Try.prog ext5 := ⟨⟨call5_16, con16⟩, ⟨call5_17, con17⟩, ⟨call5_18, con18⟩, ⟨call5_19, con19⟩, ⟨call5_20, con20⟩, trivial⟩
/-! Function 5. -/
noncomputable def b5 : Code := bodyOf Try.f5
theorem hb5 : Try.f5.body = some b5 := by kernel_rfl
def sig5 : List AT := []
def tys5 : List Ty := [.bool]
def P5 : Prop := ((P19 g17_0 1) ∧ ((P20 (u19_0 g17_0 1) 1) ∧ ((P20 (u19_0 g17_0 1) 1) ∧ True)))
def g5_0 : Bool := Bool.true
theorem p5_0 : runF tab ext5 false 36 [] 2000 [] tys5 Try.f5.results [false, false, false, false, false, false] [.code b5] (entE 0 0 sig5 ()) (entL sig5 ()) = some ([Dyn.mk Ty.bool Bool.true], [], [True, True, True, Bool.false = Bool.false, P19 g17_0 1, (26 : Nat) = (26 : Nat), P20 (u19_0 g17_0 1) 1, Bool.false = Bool.false, Bool.false = Bool.false, True, True, Bool.false = Bool.false, P20 (u19_0 g17_0 1) 1, Bool.false = Bool.false, Bool.false = Bool.false]) := by kernel_rfl
theorem at5 (h : P5) (w0 : World) (O : List Nat) (q : Nat → Value) : AtV Try.prog 5 (PostR [⟨Ty.bool, g5_0⟩] [] [] q w0 O) 36 w0 O q [] [.code b5] (entE 0 0 sig5 ()) (entL sig5 ()) := by
  unfold P5 at h
  unfold g5_0
  obtain ⟨s0, h⟩ := h
  obtain ⟨s1, h⟩ := h
  obtain ⟨s2, h⟩ := h
  exact AtV.fin Try.func5 tabOk ext5Ok mixed (p5_0) ⟨trivial, trivial, trivial, rfl, s0, (by decide), s1, rfl, rfl, trivial, trivial, rfl, s2, rfl, rfl, trivial⟩

def S5 : Am.Spec := { sig := sig5, pre := fun _ => P5, res := fun _ => [⟨Ty.bool, g5_0⟩] }
theorem con5 : Contract Try.prog 5 S5 := contract_of Try.func5 hb5 (Nat.le_of_ble_eq_true (by kernel_rfl)) (fun _ h _ w0 O q => at5 h w0 O q)


end Go.Proofs.Ytjoimmmpaocfkaa
