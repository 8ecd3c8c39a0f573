/- Function 10: its runs between cut points. Written by a program of this repo (gen). -/
import Derived.Test.YtjoimmmpaocfkaaT
import Derived.Test.YtjoimmmpaocfkaaF36
import Derived.Test.YtjoimmmpaocfkaaF37
set_option linter.unusedVariables false
set_option linter.unusedSimpArgs false
set_option maxRecDepth 100000
namespace Go.Proofs.Ytjoimmmpaocfkaa
open Go Go.Am Go.Proofs
def ext10 : Ext := [(36, S36), (37, S37)]
theorem call10_36 : Callable Try.prog 36 := ⟨Try.f36, Try.func36, by kernel_rfl, by kernel_rfl⟩
theorem call10_37 : Callable Try.prog 37 := ⟨Try.f37, Try.func37, by kernel_rfl, by kernel_rfl⟩
theorem ext10Ok : ExtOk Try.prog ext10 := ⟨⟨call10_36, con36⟩, ⟨call10_37, con37⟩, trivial⟩
/-! Function 10. -/
noncomputable def b10 : Code := bodyOf Try.f10
theorem hb10 : Try.f10.body = some b10 := by kernel_rfl
def sig10 : List AT := [AT.v (Ty.int .i64)]
def tys10 : List Ty := [.str]
def P10 (x0 : Int) : Prop := (if (!g36_0 x0) = true then True else ((0 ≤ x0) ∧ (x0 < 7) ∧ True))
def g10_0 (x0 : Int) : ByteArray := (if (!g36_0 x0) = true then ByteArray.mk #[] else List.getD g37_0 (Int.toNat x0) ByteArray.empty)
theorem p10_0 (x0 : Int) : runF tab ext10 false 10 [] 2000 tys10 Try.f10.results [true] [.code b10] (entE 0 sig10 (x0, ())) [] = some ([Dyn.mk Ty.str (ByteArray.mk #[])], [True, (!g36_0 x0) = Bool.true]) := by kernel_rfl
theorem p10_1 (x0 : Int) : runF tab ext10 false 10 [] 2000 tys10 Try.f10.results [false] [.code b10] (entE 0 sig10 (x0, ())) [] = some ([Dyn.mk Ty.str (List.getD g37_0 (Int.toNat x0) ByteArray.empty)], [True, (!g36_0 x0) = Bool.false, True, 0 ≤ x0, x0 < 7]) := by kernel_rfl
theorem at10 (x0 : Int) (h : P10 x0) (w0 : World) : AtV Try.prog 10 (PostR [⟨Ty.str, g10_0 x0⟩] w0) 10 w0 [] [.code b10] (entE 0 sig10 (x0, ())) [] := by
  unfold P10 at h
  unfold g10_0
  by_cases b0 : (!g36_0 x0) = true
  · try simp only [if_pos b0] at h ⊢
    exact AtV.fin Try.func10 tabOk ext10Ok mixed (p10_0 x0) ⟨trivial, b0, trivial⟩
  · try simp only [if_neg b0] at h ⊢
    replace b0 := Bool.eq_false_iff.2 b0
    obtain ⟨s0, s1, h⟩ := h
    exact AtV.fin Try.func10 tabOk ext10Ok mixed (p10_1 x0) ⟨trivial, b0, trivial, s0, s1, trivial⟩

def S10 : Am.Spec := { sig := sig10, pre := fun ⟨x0, _⟩ => P10 x0, res := fun ⟨x0, _⟩ => [⟨Ty.str, g10_0 x0⟩] }
theorem con10 : Contract Try.prog 10 S10 := contract_of Try.func10 hb10 rfl (fun _ => rfl) (Nat.le_of_ble_eq_true (by kernel_rfl)) (fun ⟨x0, _⟩ h _ w0 => at10 x0 h w0)


end Go.Proofs.Ytjoimmmpaocfkaa
