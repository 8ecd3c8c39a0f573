/- Function 4: its runs between cut points. Written by a program of this repo (gen). -/
import Derived.Test.YtjoimmmpaocfkaaT
import Derived.Test.YtjoimmmpaocfkaaF12
import Derived.Test.YtjoimmmpaocfkaaF13
import Derived.Test.YtjoimmmpaocfkaaF14
import Derived.Test.YtjoimmmpaocfkaaF15
set_option linter.unusedVariables false
set_option linter.unusedSimpArgs false
set_option maxRecDepth 100000
namespace Go.Proofs.Ytjoimmmpaocfkaa
open Go Go.Am Go.Proofs
def ext4 : Ext := [(12, S12), (13, S13), (14, S14), (15, S15)]
theorem call4_12 : Callable Try.prog 12 := ⟨Try.f12, Try.func12, by kernel_rfl, by kernel_rfl⟩
theorem call4_13 : Callable Try.prog 13 := ⟨Try.f13, Try.func13, by kernel_rfl, by kernel_rfl⟩
theorem call4_14 : Callable Try.prog 14 := ⟨Try.f14, Try.func14, by kernel_rfl, by kernel_rfl⟩
theorem call4_15 : Callable Try.prog 15 := ⟨Try.f15, Try.func15, by kernel_rfl, by kernel_rfl⟩
theorem ext4Ok : ExtOk Try.prog ext4 := ⟨⟨call4_12, con12⟩, ⟨call4_13, con13⟩, ⟨call4_14, con14⟩, ⟨call4_15, con15⟩, trivial⟩
/-! Function 4. -/
noncomputable def b4 : Code := bodyOf Try.f4
theorem hb4 : Try.f4.body = some b4 := by kernel_rfl
def sig4 : List AT := [AT.v (.cons (.int .i64) (.cons .str (.cons .str .unit)))]
def tys4 : List Ty := [.bool]
def P4 (x0 : Int × ByteArray × ByteArray × Unit) : Prop := ((P12 x0 1048576) ∧ (if (Decidable.decide (g12_0 x0 1048576 < 0)) = true then True else ((P13 (Prod.fst x0, Prod.fst (Prod.snd x0), Prod.fst (Prod.snd (Prod.snd x0)), ())) ∧ ((P15 (Prod.fst x0, Prod.fst (Prod.snd x0), Prod.fst (Prod.snd (Prod.snd x0)), ())) ∧ True))))
def g4_0 (x0 : Int × ByteArray × ByteArray × Unit) : Bool := (if (Decidable.decide (g12_0 x0 1048576 < 0)) = true then Bool.true else (if (!ByteArray.toList (g15_0 (Prod.fst x0, Prod.fst (Prod.snd x0), Prod.fst (Prod.snd (Prod.snd x0)), ())) == ByteArray.toList (g13_0 (Prod.fst x0, Prod.fst (Prod.snd x0), Prod.fst (Prod.snd (Prod.snd x0)), ()))) = true then Bool.false else Bool.true))
theorem p4_0 (x0 : Int × ByteArray × ByteArray × Unit) : runF tab ext4 false 20 [] 2000 [] tys4 Try.f4.results [true] [.code b4] (entE 0 0 sig4 (x0, ())) (entL sig4 (x0, ())) = some ([Dyn.mk Ty.bool Bool.true], [], [P12 x0 1048576, Decidable.decide (g12_0 x0 1048576 < 0) = Bool.true]) := by kernel_rfl
theorem p4_1 (x0 : Int × ByteArray × ByteArray × Unit) : runF tab ext4 false 20 [] 2000 [] tys4 Try.f4.results [false, true] [.code b4] (entE 0 0 sig4 (x0, ())) (entL sig4 (x0, ())) = some ([Dyn.mk Ty.bool Bool.false], [], [P12 x0 1048576, Decidable.decide (g12_0 x0 1048576 < 0) = Bool.false, True, P13 (Prod.fst x0, Prod.fst (Prod.snd x0), Prod.fst (Prod.snd (Prod.snd x0)), ()), True, P15 (Prod.fst x0, Prod.fst (Prod.snd x0), Prod.fst (Prod.snd (Prod.snd x0)), ()), (!ByteArray.toList (g15_0 (Prod.fst x0, Prod.fst (Prod.snd x0), Prod.fst (Prod.snd (Prod.snd x0)), ())) == ByteArray.toList (g13_0 (Prod.fst x0, Prod.fst (Prod.snd x0), Prod.fst (Prod.snd (Prod.snd x0)), ()))) = Bool.true]) := by kernel_rfl
theorem p4_2 (x0 : Int × ByteArray × ByteArray × Unit) : runF tab ext4 false 20 [] 2000 [] tys4 Try.f4.results [false, false] [.code b4] (entE 0 0 sig4 (x0, ())) (entL sig4 (x0, ())) = some ([Dyn.mk Ty.bool Bool.true], [], [P12 x0 1048576, Decidable.decide (g12_0 x0 1048576 < 0) = Bool.false, True, P13 (Prod.fst x0, Prod.fst (Prod.snd x0), Prod.fst (Prod.snd (Prod.snd x0)), ()), True, P15 (Prod.fst x0, Prod.fst (Prod.snd x0), Prod.fst (Prod.snd (Prod.snd x0)), ()), (!ByteArray.toList (g15_0 (Prod.fst x0, Prod.fst (Prod.snd x0), Prod.fst (Prod.snd (Prod.snd x0)), ())) == ByteArray.toList (g13_0 (Prod.fst x0, Prod.fst (Prod.snd x0), Prod.fst (Prod.snd (Prod.snd x0)), ()))) = Bool.false]) := by kernel_rfl
theorem at4 (x0 : Int × ByteArray × ByteArray × Unit) (h : P4 x0) (w0 : World) (O : List Nat) (q : Nat → Value) : AtV Try.prog 4 (PostR [⟨Ty.bool, g4_0 x0⟩] [] [] q w0 O) 20 w0 O q [] [.code b4] (entE 0 0 sig4 (x0, ())) (entL sig4 (x0, ())) := by
  unfold P4 at h
  unfold g4_0
  obtain ⟨s0, h⟩ := h
  by_cases b0 : (Decidable.decide (g12_0 x0 1048576 < 0)) = true
  · try simp only [if_pos b0] at h ⊢
    exact AtV.fin Try.func4 tabOk ext4Ok mixed (p4_0 x0) ⟨s0, b0, trivial⟩
  · try simp only [if_neg b0] at h ⊢
    replace b0 := Bool.eq_false_iff.2 b0
    obtain ⟨s1, h⟩ := h
    obtain ⟨s2, h⟩ := h
    by_cases b1 : (!ByteArray.toList (g15_0 (Prod.fst x0, Prod.fst (Prod.snd x0), Prod.fst (Prod.snd (Prod.snd x0)), ())) == ByteArray.toList (g13_0 (Prod.fst x0, Prod.fst (Prod.snd x0), Prod.fst (Prod.snd (Prod.snd x0)), ()))) = true
    · try simp only [if_pos b1] at h ⊢
      exact AtV.fin Try.func4 tabOk ext4Ok mixed (p4_1 x0) ⟨s0, b0, trivial, s1, trivial, s2, b1, trivial⟩
    · try simp only [if_neg b1] at h ⊢
      replace b1 := Bool.eq_false_iff.2 b1
      exact AtV.fin Try.func4 tabOk ext4Ok mixed (p4_2 x0) ⟨s0, b0, trivial, s1, trivial, s2, b1, trivial⟩

def S4 : Am.Spec := { sig := sig4, pre := fun ⟨x0, _⟩ => P4 x0, res := fun ⟨x0, _⟩ => [⟨Ty.bool, g4_0 x0⟩] }
theorem con4 : Contract Try.prog 4 S4 := contract_of Try.func4 hb4 (Nat.le_of_ble_eq_true (by kernel_rfl)) (fun ⟨x0, _⟩ h _ w0 O q => at4 x0 h w0 O q)


end Go.Proofs.Ytjoimmmpaocfkaa
