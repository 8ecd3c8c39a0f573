/- Function 7: its runs between cut points. Written by a program of this repo (gen). -/
import Derived.Test.YtjoimmmpaocfkaaT
import Derived.Test.YtjoimmmpaocfkaaF25
import Derived.Test.YtjoimmmpaocfkaaF26
import Derived.Test.YtjoimmmpaocfkaaF27
import Derived.Test.YtjoimmmpaocfkaaF28
import Derived.Test.YtjoimmmpaocfkaaF29
set_option linter.unusedVariables false
set_option linter.unusedSimpArgs false
set_option maxRecDepth 100000
namespace Go.Proofs.Ytjoimmmpaocfkaa
open Go Go.Am Go.Proofs
def ext7 : Ext := [(25, S25), (26, S26), (27, S27), (28, S28), (29, S29)]
theorem call7_25 : Callable Try.prog 25 := ⟨Try.f25, Try.func25, by kernel_rfl, by kernel_rfl⟩
theorem call7_26 : Callable Try.prog 26 := ⟨Try.f26, Try.func26, by kernel_rfl, by kernel_rfl⟩
theorem call7_27 : Callable Try.prog 27 := ⟨Try.f27, Try.func27, by kernel_rfl, by kernel_rfl⟩
theorem call7_28 : Callable Try.prog 28 := ⟨Try.f28, Try.func28, by kernel_rfl, by kernel_rfl⟩
theorem call7_29 : Callable Try.prog 29 := ⟨Try.f29, Try.func29, by kernel_rfl, by kernel_rfl⟩
theorem ext7Ok : ExtOk Try.prog ext7 := ⟨⟨call7_25, con25⟩, ⟨call7_26, con26⟩, ⟨call7_27, con27⟩, ⟨call7_28, con28⟩, ⟨call7_29, con29⟩, trivial⟩
/-! Function 7. -/
noncomputable def b7 : Code := bodyOf Try.f7
theorem hb7 : Try.f7.body = some b7 := by kernel_rfl
def sig7 : List AT := [AT.v (.sl (.cons .str (.cons .str (.cons .str .unit)))),AT.v (.sl (.cons .str (.cons .str (.cons .str .unit))))]
def tys7 : List Ty := [.bool]
def P7 (x0 : List (ByteArray × ByteArray × ByteArray × Unit)) (x1 : List (ByteArray × ByteArray × ByteArray × Unit)) : Prop := ((P25 x0 1048576) ∧ (if (Decidable.decide (g25_0 x0 1048576 < 0)) = true then True else ((P25 x1 (g25_0 x0 1048576)) ∧ (if (Decidable.decide (g25_0 x1 (g25_0 x0 1048576) < 0)) = true then True else ((P27 x0) ∧ ((P27 x1) ∧ ((P27 x0) ∧ ((P27 x1) ∧ (if (!g28_0 (g27_0 x0) (g27_0 x1) == g26_0 (g27_0 x0) (g27_0 x1)) = true then True else ((P27 x0) ∧ (if (!g29_0 (g27_0 x0) (g27_0 x0)) = true then True else ((P27 x1) ∧ True))))))))))))
def g7_0 (x0 : List (ByteArray × ByteArray × ByteArray × Unit)) (x1 : List (ByteArray × ByteArray × ByteArray × Unit)) : Bool := (if (Decidable.decide (g25_0 x0 1048576 < 0)) = true then Bool.true else (if (Decidable.decide (g25_0 x1 (g25_0 x0 1048576) < 0)) = true then Bool.true else (if (!g28_0 (g27_0 x0) (g27_0 x1) == g26_0 (g27_0 x0) (g27_0 x1)) = true then Bool.false else (if (!g29_0 (g27_0 x0) (g27_0 x0)) = true then Bool.false else (if (!g29_0 (g27_0 x1) (g27_0 x1)) = true then Bool.false else Bool.true)))))
theorem p7_0 (x0 : List (ByteArray × ByteArray × ByteArray × Unit)) (x1 : List (ByteArray × ByteArray × ByteArray × Unit)) : runF tab ext7 false 45 [] 2000 tys7 Try.f7.results [true] [.code b7] (entE 0 sig7 (x0, x1, ())) [] = some ([Dyn.mk Ty.bool Bool.true], [P25 x0 1048576, Decidable.decide (g25_0 x0 1048576 < 0) = Bool.true]) := by kernel_rfl
theorem p7_1 (x0 : List (ByteArray × ByteArray × ByteArray × Unit)) (x1 : List (ByteArray × ByteArray × ByteArray × Unit)) : runF tab ext7 false 45 [] 2000 tys7 Try.f7.results [false, true] [.code b7] (entE 0 sig7 (x0, x1, ())) [] = some ([Dyn.mk Ty.bool Bool.true], [P25 x0 1048576, Decidable.decide (g25_0 x0 1048576 < 0) = Bool.false, P25 x1 (g25_0 x0 1048576), Decidable.decide (g25_0 x1 (g25_0 x0 1048576) < 0) = Bool.true]) := by kernel_rfl
theorem p7_2 (x0 : List (ByteArray × ByteArray × ByteArray × Unit)) (x1 : List (ByteArray × ByteArray × ByteArray × Unit)) : runF tab ext7 false 45 [] 2000 tys7 Try.f7.results [false, false, true] [.code b7] (entE 0 sig7 (x0, x1, ())) [] = some ([Dyn.mk Ty.bool Bool.false], [P25 x0 1048576, Decidable.decide (g25_0 x0 1048576 < 0) = Bool.false, P25 x1 (g25_0 x0 1048576), Decidable.decide (g25_0 x1 (g25_0 x0 1048576) < 0) = Bool.false, P27 x0, P27 x1, True, P27 x0, P27 x1, True, (!g28_0 (g27_0 x0) (g27_0 x1) == g26_0 (g27_0 x0) (g27_0 x1)) = Bool.true]) := by kernel_rfl
theorem p7_3 (x0 : List (ByteArray × ByteArray × ByteArray × Unit)) (x1 : List (ByteArray × ByteArray × ByteArray × Unit)) : runF tab ext7 false 45 [] 2000 tys7 Try.f7.results [false, false, false, true] [.code b7] (entE 0 sig7 (x0, x1, ())) [] = some ([Dyn.mk Ty.bool Bool.false], [P25 x0 1048576, Decidable.decide (g25_0 x0 1048576 < 0) = Bool.false, P25 x1 (g25_0 x0 1048576), Decidable.decide (g25_0 x1 (g25_0 x0 1048576) < 0) = Bool.false, P27 x0, P27 x1, True, P27 x0, P27 x1, True, (!g28_0 (g27_0 x0) (g27_0 x1) == g26_0 (g27_0 x0) (g27_0 x1)) = Bool.false, P27 x0, True, (!g29_0 (g27_0 x0) (g27_0 x0)) = Bool.true]) := by kernel_rfl
theorem p7_4 (x0 : List (ByteArray × ByteArray × ByteArray × Unit)) (x1 : List (ByteArray × ByteArray × ByteArray × Unit)) : runF tab ext7 false 45 [] 2000 tys7 Try.f7.results [false, false, false, false, true] [.code b7] (entE 0 sig7 (x0, x1, ())) [] = some ([Dyn.mk Ty.bool Bool.false], [P25 x0 1048576, Decidable.decide (g25_0 x0 1048576 < 0) = Bool.false, P25 x1 (g25_0 x0 1048576), Decidable.decide (g25_0 x1 (g25_0 x0 1048576) < 0) = Bool.false, P27 x0, P27 x1, True, P27 x0, P27 x1, True, (!g28_0 (g27_0 x0) (g27_0 x1) == g26_0 (g27_0 x0) (g27_0 x1)) = Bool.false, P27 x0, True, (!g29_0 (g27_0 x0) (g27_0 x0)) = Bool.false, P27 x1, True, (!g29_0 (g27_0 x1) (g27_0 x1)) = Bool.true]) := by kernel_rfl
theorem p7_5 (x0 : List (ByteArray × ByteArray × ByteArray × Unit)) (x1 : List (ByteArray × ByteArray × ByteArray × Unit)) : runF tab ext7 false 45 [] 2000 tys7 Try.f7.results [false, false, false, false, false] [.code b7] (entE 0 sig7 (x0, x1, ())) [] = some ([Dyn.mk Ty.bool Bool.true], [P25 x0 1048576, Decidable.decide (g25_0 x0 1048576 < 0) = Bool.false, P25 x1 (g25_0 x0 1048576), Decidable.decide (g25_0 x1 (g25_0 x0 1048576) < 0) = Bool.false, P27 x0, P27 x1, True, P27 x0, P27 x1, True, (!g28_0 (g27_0 x0) (g27_0 x1) == g26_0 (g27_0 x0) (g27_0 x1)) = Bool.false, P27 x0, True, (!g29_0 (g27_0 x0) (g27_0 x0)) = Bool.false, P27 x1, True, (!g29_0 (g27_0 x1) (g27_0 x1)) = Bool.false]) := by kernel_rfl
theorem at7 (x0 : List (ByteArray × ByteArray × ByteArray × Unit)) (x1 : List (ByteArray × ByteArray × ByteArray × Unit)) (h : P7 x0 x1) (w0 : World) : AtV Try.prog 7 (PostR [⟨Ty.bool, g7_0 x0 x1⟩] w0) 45 w0 [] [.code b7] (entE 0 sig7 (x0, x1, ())) [] := by
  unfold P7 at h
  unfold g7_0
  obtain ⟨s0, h⟩ := h
  by_cases b0 : (Decidable.decide (g25_0 x0 1048576 < 0)) = true
  · try simp only [if_pos b0] at h ⊢
    exact AtV.fin Try.func7 tabOk ext7Ok mixed (p7_0 x0 x1) ⟨s0, b0, trivial⟩
  · try simp only [if_neg b0] at h ⊢
    replace b0 := Bool.eq_false_iff.2 b0
    obtain ⟨s1, h⟩ := h
    by_cases b1 : (Decidable.decide (g25_0 x1 (g25_0 x0 1048576) < 0)) = true
    · try simp only [if_pos b1] at h ⊢
      exact AtV.fin Try.func7 tabOk ext7Ok mixed (p7_1 x0 x1) ⟨s0, b0, s1, b1, trivial⟩
    · try simp only [if_neg b1] at h ⊢
      replace b1 := Bool.eq_false_iff.2 b1
      obtain ⟨s2, h⟩ := h
      obtain ⟨s3, h⟩ := h
      obtain ⟨s4, h⟩ := h
      obtain ⟨s5, h⟩ := h
      by_cases b2 : (!g28_0 (g27_0 x0) (g27_0 x1) == g26_0 (g27_0 x0) (g27_0 x1)) = true
      · try simp only [if_pos b2] at h ⊢
        exact AtV.fin Try.func7 tabOk ext7Ok mixed (p7_2 x0 x1) ⟨s0, b0, s1, b1, s2, s3, trivial, s4, s5, trivial, b2, trivial⟩
      · try simp only [if_neg b2] at h ⊢
        replace b2 := Bool.eq_false_iff.2 b2
        obtain ⟨s6, h⟩ := h
        by_cases b3 : (!g29_0 (g27_0 x0) (g27_0 x0)) = true
        · try simp only [if_pos b3] at h ⊢
          exact AtV.fin Try.func7 tabOk ext7Ok mixed (p7_3 x0 x1) ⟨s0, b0, s1, b1, s2, s3, trivial, s4, s5, trivial, b2, s6, trivial, b3, trivial⟩
        · try simp only [if_neg b3] at h ⊢
          replace b3 := Bool.eq_false_iff.2 b3
          obtain ⟨s7, h⟩ := h
          by_cases b4 : (!g29_0 (g27_0 x1) (g27_0 x1)) = true
          · try simp only [if_pos b4] at h ⊢
            exact AtV.fin Try.func7 tabOk ext7Ok mixed (p7_4 x0 x1) ⟨s0, b0, s1, b1, s2, s3, trivial, s4, s5, trivial, b2, s6, trivial, b3, s7, trivial, b4, trivial⟩
          · try simp only [if_neg b4] at h ⊢
            replace b4 := Bool.eq_false_iff.2 b4
            exact AtV.fin Try.func7 tabOk ext7Ok mixed (p7_5 x0 x1) ⟨s0, b0, s1, b1, s2, s3, trivial, s4, s5, trivial, b2, s6, trivial, b3, s7, trivial, b4, trivial⟩

def S7 : Am.Spec := { sig := sig7, pre := fun ⟨x0, x1, _⟩ => P7 x0 x1, res := fun ⟨x0, x1, _⟩ => [⟨Ty.bool, g7_0 x0 x1⟩] }
theorem con7 : Contract Try.prog 7 S7 := contract_of Try.func7 hb7 rfl (fun _ => rfl) (Nat.le_of_ble_eq_true (by kernel_rfl)) (fun ⟨x0, x1, _⟩ h _ w0 => at7 x0 x1 h w0)


end Go.Proofs.Ytjoimmmpaocfkaa
