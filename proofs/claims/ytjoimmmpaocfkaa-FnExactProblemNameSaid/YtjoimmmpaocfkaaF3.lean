/- Function 3: its runs between cut points. Written by a program of this repo (gen). -/
import Derived.Test.YtjoimmmpaocfkaaT
import Derived.Test.YtjoimmmpaocfkaaF10
import Derived.Test.YtjoimmmpaocfkaaF11
set_option linter.unusedVariables false
set_option linter.unusedSimpArgs false
set_option maxRecDepth 100000
namespace Go.Proofs.Ytjoimmmpaocfkaa
open Go Go.Am Go.Proofs
def ext3 : Ext := [(10, S10), (11, S11)]
theorem call3_10 : Callable Try.prog 10 := ⟨Try.f10, Try.func10, by kernel_rfl, by kernel_rfl⟩
theorem call3_11 : Callable Try.prog 11 := ⟨Try.f11, Try.func11, by kernel_rfl, by kernel_rfl⟩
theorem ext3Ok : ExtOk Try.prog ext3 := ⟨⟨call3_10, con10⟩, ⟨call3_11, con11⟩, trivial⟩
/-! Function 3. -/
noncomputable def b3 : Code := bodyOf Try.f3
theorem hb3 : Try.f3.body = some b3 := by kernel_rfl
def sig3 : List AT := [AT.v (Ty.int .i64)]
def tys3 : List Ty := [.bool]
def P3 (x0 : Int) : Prop := ((P10 x0) ∧ ((P11 x0) ∧ True))
def g3_0 (x0 : Int) : Bool := (if (!ByteArray.toList (g11_0 x0) == ByteArray.toList (g10_0 x0)) = true then Bool.false else Bool.true)
theorem p3_0 (x0 : Int) : runF tab ext3 false 12 [] 2000 tys3 Try.f3.results [true] [.code b3] (entE 0 sig3 (x0, ())) [] = some ([Dyn.mk Ty.bool Bool.false], [P10 x0, P11 x0, (!ByteArray.toList (g11_0 x0) == ByteArray.toList (g10_0 x0)) = Bool.true]) := by kernel_rfl
theorem p3_1 (x0 : Int) : runF tab ext3 false 12 [] 2000 tys3 Try.f3.results [false] [.code b3] (entE 0 sig3 (x0, ())) [] = some ([Dyn.mk Ty.bool Bool.true], [P10 x0, P11 x0, (!ByteArray.toList (g11_0 x0) == ByteArray.toList (g10_0 x0)) = Bool.false]) := by kernel_rfl
theorem at3 (x0 : Int) (h : P3 x0) (w0 : World) : AtV Try.prog 3 (PostR [⟨Ty.bool, g3_0 x0⟩] w0) 12 w0 [] [.code b3] (entE 0 sig3 (x0, ())) [] := by
  unfold P3 at h
  unfold g3_0
  obtain ⟨s0, h⟩ := h
  obtain ⟨s1, h⟩ := h
  by_cases b0 : (!ByteArray.toList (g11_0 x0) == ByteArray.toList (g10_0 x0)) = true
  · try simp only [if_pos b0] at h ⊢
    exact AtV.fin Try.func3 tabOk ext3Ok mixed (p3_0 x0) ⟨s0, s1, b0, trivial⟩
  · try simp only [if_neg b0] at h ⊢
    replace b0 := Bool.eq_false_iff.2 b0
    exact AtV.fin Try.func3 tabOk ext3Ok mixed (p3_1 x0) ⟨s0, s1, b0, trivial⟩

def S3 : Am.Spec := { sig := sig3, pre := fun ⟨x0, _⟩ => P3 x0, res := fun ⟨x0, _⟩ => [⟨Ty.bool, g3_0 x0⟩] }
theorem con3 : Contract Try.prog 3 S3 := contract_of Try.func3 hb3 rfl (fun _ => rfl) (Nat.le_of_ble_eq_true (by kernel_rfl)) (fun ⟨x0, _⟩ h _ w0 => at3 x0 h w0)


end Go.Proofs.Ytjoimmmpaocfkaa
