/- Function 11: its runs between cut points. Written by a program of this repo (gen). -/
import Derived.Test.YtjoimmmpaocfkaaT
import Derived.Test.YtjoimmmpaocfkaaF38
set_option linter.unusedVariables false
set_option linter.unusedSimpArgs false
set_option maxRecDepth 100000
namespace Go.Proofs.Ytjoimmmpaocfkaa
open Go Go.Am Go.Proofs
def ext11 : Ext := [(38, S38)]
theorem call11_38 : Callable Try.prog 38 := ⟨Try.f38, Try.func38, by kernel_rfl, by kernel_rfl⟩
theorem ext11Ok : ExtOk Try.prog ext11 := ⟨⟨call11_38, con38⟩, trivial⟩
/-! Function 11. -/
noncomputable def b11 : Code := bodyOf Try.f11
theorem hb11 : Try.f11.body = some b11 := by kernel_rfl
def sig11 : List AT := [AT.v (Ty.int .i64)]
def tys11 : List Ty := [.str]
def P11 (x0 : Int) : Prop := (if (!g38_0 x0) = true then True else ((InR IntKind.i64 (x0 - 1)) ∧ ((0 ≤ x0 - 1) ∧ (x0 - 1 < 6) ∧ True)))
def g11_0 (x0 : Int) : ByteArray := (if (!g38_0 x0) = true then ByteArray.mk #[] else List.getD [ByteArray.mk #[116, 114, 97, 99, 107], ByteArray.mk #[98, 114, 97, 107, 101], ByteArray.mk #[108, 111, 97, 100], ByteArray.mk #[99, 104, 101, 99, 107], ByteArray.mk #[116, 117, 114, 110], ByteArray.mk #[115, 101, 97, 108]] (Int.toNat (x0 - 1)) ByteArray.empty)
theorem p11_0 (x0 : Int) : runF tab ext11 false 11 [] 2000 [] tys11 Try.f11.results [true] [.code b11] (entE 0 0 sig11 (x0, ())) (entL sig11 (x0, ())) = some ([Dyn.mk Ty.str (ByteArray.mk #[])], [], [True, (!g38_0 x0) = Bool.true]) := by kernel_rfl
theorem p11_1 (x0 : Int) : runF tab ext11 false 11 [] 2000 [] tys11 Try.f11.results [false] [.code b11] (entE 0 0 sig11 (x0, ())) (entL sig11 (x0, ())) = some ([Dyn.mk Ty.str (List.getD [ByteArray.mk #[116, 114, 97, 99, 107], ByteArray.mk #[98, 114, 97, 107, 101], ByteArray.mk #[108, 111, 97, 100], ByteArray.mk #[99, 104, 101, 99, 107], ByteArray.mk #[116, 117, 114, 110], ByteArray.mk #[115, 101, 97, 108]] (Int.toNat (x0 - 1)) ByteArray.empty)], [], [True, (!g38_0 x0) = Bool.false, InR IntKind.i64 (x0 - 1), 0 ≤ x0 - 1, x0 - 1 < 6]) := by kernel_rfl
theorem at11 (x0 : Int) (h : P11 x0) (w0 : World) (O : List Nat) (q : Nat → Value) : AtV Try.prog 11 (PostR [⟨Ty.str, g11_0 x0⟩] [] [] q w0 O) 11 w0 O q [] [.code b11] (entE 0 0 sig11 (x0, ())) (entL sig11 (x0, ())) := by
  unfold P11 at h
  unfold g11_0
  by_cases b0 : (!g38_0 x0) = true
  · try simp only [if_pos b0] at h ⊢
    exact AtV.fin Try.func11 tabOk ext11Ok mixed (p11_0 x0) ⟨trivial, b0, trivial⟩
  · try simp only [if_neg b0] at h ⊢
    replace b0 := Bool.eq_false_iff.2 b0
    obtain ⟨s0, h⟩ := h
    obtain ⟨s1, s2, h⟩ := h
    exact AtV.fin Try.func11 tabOk ext11Ok mixed (p11_1 x0) ⟨trivial, b0, s0, s1, s2, trivial⟩

def S11 : Am.Spec := { sig := sig11, pre := fun ⟨x0, _⟩ => P11 x0, res := fun ⟨x0, _⟩ => [⟨Ty.str, g11_0 x0⟩] }
theorem con11 : Contract Try.prog 11 S11 := contract_of Try.func11 hb11 (Nat.le_of_ble_eq_true (by kernel_rfl)) (fun ⟨x0, _⟩ h _ w0 O q => at11 x0 h w0 O q)


end Go.Proofs.Ytjoimmmpaocfkaa
