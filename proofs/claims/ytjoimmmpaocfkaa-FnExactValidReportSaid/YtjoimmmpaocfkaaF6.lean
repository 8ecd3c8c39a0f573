/- Function 6 (laws.FnExactValidReport): its runs between cut points. Written by a program of this repo (gen). -/
import Derived.Test.YtjoimmmpaocfkaaT
import Derived.Test.YtjoimmmpaocfkaaF21
import Derived.Test.YtjoimmmpaocfkaaF23
import Derived.Test.YtjoimmmpaocfkaaF22
import Derived.Test.YtjoimmmpaocfkaaF24
import Derived.Test.YtjoimmmpaocfkaaF18
set_option linter.unusedVariables false
set_option linter.unusedSimpArgs false
set_option maxRecDepth 100000
namespace Go.Proofs.Ytjoimmmpaocfkaa
open Go Go.Am Go.Proofs
def ext6 : Ext := [(21, S21), (23, S23), (22, S22), (24, S24), (18, S18)]
theorem call6_21 : Callable Try.prog 21 := ⟨Try.f21, Try.func21, by kernel_rfl, by kernel_rfl⟩
theorem call6_23 : Callable Try.prog 23 := ⟨Try.f23, Try.func23, by kernel_rfl, by kernel_rfl⟩
theorem call6_22 : Callable Try.prog 22 := ⟨Try.f22, Try.func22, by kernel_rfl, by kernel_rfl⟩
theorem call6_24 : Callable Try.prog 24 := ⟨Try.f24, Try.func24, by kernel_rfl, by kernel_rfl⟩
theorem call6_18 : Callable Try.prog 18 := ⟨Try.f18, Try.func18, by kernel_rfl, by kernel_rfl⟩
theorem ext6Ok : ExtOk Try.prog ext6 := ⟨⟨call6_21, con21⟩, ⟨call6_23, con23⟩, ⟨call6_22, con22⟩, ⟨call6_24, con24⟩, ⟨call6_18, con18⟩, trivial⟩
/-! Function 6. -/
noncomputable def b6 : Code := bodyOf Try.f6
theorem hb6 : Try.f6.body = some b6 := by kernel_rfl
def sig6 : List AT := [AT.v (Ty.sl Ty.str)]
def tys6 : List Ty := [Ty.bool]
def P6 (x0 : List ByteArray) : Prop := ((P21 x0 1048576) ∧ (if (Decidable.decide (g21_0 x0 1048576 < 0)) = true then True else ((P23 x0) ∧ ((P23 x0) ∧ (if (!g24_0 (g23_0 x0) == g22_0 (g23_0 x0)) = true then True else ((P23 x0) ∧ True))))))
def g6_0 (x0 : List ByteArray) : Bool := (if (Decidable.decide (g21_0 x0 1048576 < 0)) = true then Bool.true else (if (!g24_0 (g23_0 x0) == g22_0 (g23_0 x0)) = true then Bool.false else (if (!g18_0 (g23_0 x0) (g23_0 x0)) = true then Bool.false else Bool.true)))
theorem p6_0 (x0 : List ByteArray) : runF tab ext6 false 27 [] 2000 [] tys6 Try.f6.results [true] [.code b6] (entE 0 0 sig6 (x0, ())) (entL sig6 (x0, ())) = some ([Dyn.mk Ty.bool Bool.true], [], [P21 x0 1048576, Decidable.decide (g21_0 x0 1048576 < 0) = Bool.true]) := by kernel_rfl
theorem p6_1 (x0 : List ByteArray) : runF tab ext6 false 27 [] 2000 [] tys6 Try.f6.results [false, true] [.code b6] (entE 0 0 sig6 (x0, ())) (entL sig6 (x0, ())) = some ([Dyn.mk Ty.bool Bool.false], [], [P21 x0 1048576, Decidable.decide (g21_0 x0 1048576 < 0) = Bool.false, P23 x0, True, P23 x0, True, (!g24_0 (g23_0 x0) == g22_0 (g23_0 x0)) = Bool.true]) := by kernel_rfl
theorem p6_2 (x0 : List ByteArray) : runF tab ext6 false 27 [] 2000 [] tys6 Try.f6.results [false, false, true] [.code b6] (entE 0 0 sig6 (x0, ())) (entL sig6 (x0, ())) = some ([Dyn.mk Ty.bool Bool.false], [], [P21 x0 1048576, Decidable.decide (g21_0 x0 1048576 < 0) = Bool.false, P23 x0, True, P23 x0, True, (!g24_0 (g23_0 x0) == g22_0 (g23_0 x0)) = Bool.false, P23 x0, True, (!g18_0 (g23_0 x0) (g23_0 x0)) = Bool.true]) := by kernel_rfl
theorem p6_3 (x0 : List ByteArray) : runF tab ext6 false 27 [] 2000 [] tys6 Try.f6.results [false, false, false] [.code b6] (entE 0 0 sig6 (x0, ())) (entL sig6 (x0, ())) = some ([Dyn.mk Ty.bool Bool.true], [], [P21 x0 1048576, Decidable.decide (g21_0 x0 1048576 < 0) = Bool.false, P23 x0, True, P23 x0, True, (!g24_0 (g23_0 x0) == g22_0 (g23_0 x0)) = Bool.false, P23 x0, True, (!g18_0 (g23_0 x0) (g23_0 x0)) = Bool.false]) := by kernel_rfl
theorem at6 (x0 : List ByteArray) (h : P6 x0) (w0 : World) (O : List Nat) (q : Nat → Value) : AtV Try.prog 6 (PostR [⟨Ty.bool, g6_0 x0⟩] [] [] q w0 O) 27 w0 O q [] [.code b6] (entE 0 0 sig6 (x0, ())) (entL sig6 (x0, ())) := by
  unfold P6 at h
  unfold g6_0
  obtain ⟨s0, h⟩ := h
  by_cases b0 : (Decidable.decide (g21_0 x0 1048576 < 0)) = true
  · try simp only [if_pos b0] at h ⊢
    exact AtV.fin Try.func6 tabOk ext6Ok mixed (p6_0 x0) ⟨s0, b0, trivial⟩
  · try simp only [if_neg b0] at h ⊢
    replace b0 := Bool.eq_false_iff.2 b0
    obtain ⟨s1, h⟩ := h
    obtain ⟨s2, h⟩ := h
    by_cases b1 : (!g24_0 (g23_0 x0) == g22_0 (g23_0 x0)) = true
    · try simp only [if_pos b1] at h ⊢
      exact AtV.fin Try.func6 tabOk ext6Ok mixed (p6_1 x0) ⟨s0, b0, s1, trivial, s2, trivial, b1, trivial⟩
    · try simp only [if_neg b1] at h ⊢
      replace b1 := Bool.eq_false_iff.2 b1
      obtain ⟨s3, h⟩ := h
      by_cases b2 : (!g18_0 (g23_0 x0) (g23_0 x0)) = true
      · try simp only [if_pos b2] at h ⊢
        exact AtV.fin Try.func6 tabOk ext6Ok mixed (p6_2 x0) ⟨s0, b0, s1, trivial, s2, trivial, b1, s3, trivial, b2, trivial⟩
      · try simp only [if_neg b2] at h ⊢
        replace b2 := Bool.eq_false_iff.2 b2
        exact AtV.fin Try.func6 tabOk ext6Ok mixed (p6_3 x0) ⟨s0, b0, s1, trivial, s2, trivial, b1, s3, trivial, b2, trivial⟩

def S6 : Am.Spec := { sig := sig6, pre := fun ⟨x0, _⟩ => P6 x0, res := fun ⟨x0, _⟩ => [⟨Ty.bool, g6_0 x0⟩] }
theorem con6 : Contract Try.prog 6 S6 := contract_of Try.func6 hb6 (Nat.le_of_ble_eq_true (by kernel_rfl)) (fun ⟨x0, _⟩ h _ w0 O q => at6 x0 h w0 O q)


end Go.Proofs.Ytjoimmmpaocfkaa
