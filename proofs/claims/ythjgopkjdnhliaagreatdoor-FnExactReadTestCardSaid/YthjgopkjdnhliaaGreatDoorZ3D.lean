/- Several texts in one: the functions that this law reaches, and their laws. -/
import Derived.Test.YthjgopkjdnhliaaGreatDoorZ3A
import Derived.Test.YthjgopkjdnhliaaGreatDoorZ3B
import Derived.Test.YthjgopkjdnhliaaGreatDoorZ3C
import Derived.Lib.ItoaNum
import Derived.Lib.TrimByte
import Derived.Lib.ParseIntBCases

/- Function 7 (spec.l22Read): its runs between cut points. Written by a program of this repo (gen). -/
set_option linter.unusedVariables false
set_option linter.unusedSimpArgs false
set_option maxRecDepth 100000
namespace Go.Proofs.YthjgopkjdnhliaaGreatDoor
open Go Go.Am Go.Proofs
def ext7 : Ext := [(12, S12), (13, S13), (14, S14), (15, S15)]
theorem call7_12 : Callable Tryz.prog 12 := ⟨Tryz.f12, Tryz.func12, by kernel_rfl, by kernel_rfl⟩
theorem call7_13 : Callable Tryz.prog 13 := ⟨Tryz.f13, Tryz.func13, by kernel_rfl, by kernel_rfl⟩
theorem call7_14 : Callable Tryz.prog 14 := ⟨Tryz.f14, Tryz.func14, by kernel_rfl, by kernel_rfl⟩
theorem call7_15 : Callable Tryz.prog 15 := ⟨Tryz.f15, Tryz.func15, by kernel_rfl, by kernel_rfl⟩
theorem ext7Ok : ExtOk Tryz.prog ext7 := ⟨⟨call7_12, con12⟩, ⟨call7_13, con13⟩, ⟨call7_14, con14⟩, ⟨call7_15, con15⟩, trivial⟩
/-! Function 7. -/
noncomputable def b7 : Code := bodyOf Tryz.f7
theorem hb7 : Tryz.f7.body = some b7 := by kernel_rfl
def sig7 : List AT := [AT.v (Ty.str)]
def tys7 : List Ty := [Ty.cons (Ty.int IntKind.i64) (Ty.cons (Ty.int IntKind.i64) (Ty.cons (Ty.int IntKind.i64) Ty.unit)), Ty.bool]
def P7 (x0 : ByteArray) : Prop := ((P12 x0 32) ∧ (if ((↑(List.length (g12_0 x0 32)) : Int) != 2) = true then True else ((0 < (↑(List.length (g12_0 x0 32)) : Int)) ∧ ((P13 (List.getD (g12_0 x0 32) 0 ByteArray.empty)) ∧ ((1 < (↑(List.length (g12_0 x0 32)) : Int)) ∧ ((P14 (List.getD (g12_0 x0 32) 1 ByteArray.empty)) ∧ (if (!g13_1 (List.getD (g12_0 x0 32) 0 ByteArray.empty)) = true then True else (if (!g14_1 (List.getD (g12_0 x0 32) 1 ByteArray.empty)) = true then True else (if ((↑(List.length (g14_0 (List.getD (g12_0 x0 32) 1 ByteArray.empty))) : Int) != 2) = true then True else ((0 < (↑(List.length (g14_0 (List.getD (g12_0 x0 32) 1 ByteArray.empty))) : Int)) ∧ ((1 < (↑(List.length (g14_0 (List.getD (g12_0 x0 32) 1 ByteArray.empty))) : Int)) ∧ True)))))))))))
def g7_0 (x0 : ByteArray) : Int × Int × Int × Unit := (if ((↑(List.length (g12_0 x0 32)) : Int) != 2) = true then (0, 0, 0, ()) else (if (!g13_1 (List.getD (g12_0 x0 32) 0 ByteArray.empty)) = true then (0, 0, 0, ()) else (if (!g14_1 (List.getD (g12_0 x0 32) 1 ByteArray.empty)) = true then (0, 0, 0, ()) else (if ((↑(List.length (g14_0 (List.getD (g12_0 x0 32) 1 ByteArray.empty))) : Int) != 2) = true then (0, 0, 0, ()) else (if (!g15_0 (g13_0 (List.getD (g12_0 x0 32) 0 ByteArray.empty), List.getD (g14_0 (List.getD (g12_0 x0 32) 1 ByteArray.empty)) 0 0, List.getD (g14_0 (List.getD (g12_0 x0 32) 1 ByteArray.empty)) 1 0, ())) = true then (0, 0, 0, ()) else (g13_0 (List.getD (g12_0 x0 32) 0 ByteArray.empty), List.getD (g14_0 (List.getD (g12_0 x0 32) 1 ByteArray.empty)) 0 0, List.getD (g14_0 (List.getD (g12_0 x0 32) 1 ByteArray.empty)) 1 0, ()))))))
def g7_1 (x0 : ByteArray) : Bool := (if ((↑(List.length (g12_0 x0 32)) : Int) != 2) = true then Bool.false else (if (!g13_1 (List.getD (g12_0 x0 32) 0 ByteArray.empty)) = true then Bool.false else (if (!g14_1 (List.getD (g12_0 x0 32) 1 ByteArray.empty)) = true then Bool.false else (if ((↑(List.length (g14_0 (List.getD (g12_0 x0 32) 1 ByteArray.empty))) : Int) != 2) = true then Bool.false else (if (!g15_0 (g13_0 (List.getD (g12_0 x0 32) 0 ByteArray.empty), List.getD (g14_0 (List.getD (g12_0 x0 32) 1 ByteArray.empty)) 0 0, List.getD (g14_0 (List.getD (g12_0 x0 32) 1 ByteArray.empty)) 1 0, ())) = true then Bool.false else Bool.true)))))
theorem p7_0 (x0 : ByteArray) : runF tab ext7 false 54 [] 2000 [] tys7 Tryz.f7.results [true] [.code b7] (entE 0 0 sig7 (x0, ())) (entL sig7 (x0, ())) = some ([Dyn.mk (Ty.cons (Ty.int IntKind.i64) (Ty.cons (Ty.int IntKind.i64) (Ty.cons (Ty.int IntKind.i64) Ty.unit))) (0, 0, 0, ()), Dyn.mk Ty.bool Bool.false], [], [P12 x0 32, ((↑(List.length (g12_0 x0 32)) : Int) != 2) = Bool.true]) := by kernel_rfl
theorem p7_1 (x0 : ByteArray) : runF tab ext7 false 54 [] 2000 [] tys7 Tryz.f7.results [false, true, true, true] [.code b7] (entE 0 0 sig7 (x0, ())) (entL sig7 (x0, ())) = some ([Dyn.mk (Ty.cons (Ty.int IntKind.i64) (Ty.cons (Ty.int IntKind.i64) (Ty.cons (Ty.int IntKind.i64) Ty.unit))) (0, 0, 0, ()), Dyn.mk Ty.bool Bool.false], [], [P12 x0 32, ((↑(List.length (g12_0 x0 32)) : Int) != 2) = Bool.false, (0 : Int) ≤ (0 : Int), 0 < (↑(List.length (g12_0 x0 32)) : Int), P13 (List.getD (g12_0 x0 32) 0 ByteArray.empty), (0 : Int) ≤ (1 : Int), 1 < (↑(List.length (g12_0 x0 32)) : Int), P14 (List.getD (g12_0 x0 32) 1 ByteArray.empty), (!g13_1 (List.getD (g12_0 x0 32) 0 ByteArray.empty)) = Bool.true, Bool.true = Bool.true, Bool.true = Bool.true]) := by kernel_rfl
theorem p7_2 (x0 : ByteArray) : runF tab ext7 false 54 [] 2000 [] tys7 Tryz.f7.results [false, false, true, true] [.code b7] (entE 0 0 sig7 (x0, ())) (entL sig7 (x0, ())) = some ([Dyn.mk (Ty.cons (Ty.int IntKind.i64) (Ty.cons (Ty.int IntKind.i64) (Ty.cons (Ty.int IntKind.i64) Ty.unit))) (0, 0, 0, ()), Dyn.mk Ty.bool Bool.false], [], [P12 x0 32, ((↑(List.length (g12_0 x0 32)) : Int) != 2) = Bool.false, (0 : Int) ≤ (0 : Int), 0 < (↑(List.length (g12_0 x0 32)) : Int), P13 (List.getD (g12_0 x0 32) 0 ByteArray.empty), (0 : Int) ≤ (1 : Int), 1 < (↑(List.length (g12_0 x0 32)) : Int), P14 (List.getD (g12_0 x0 32) 1 ByteArray.empty), (!g13_1 (List.getD (g12_0 x0 32) 0 ByteArray.empty)) = Bool.false, (!g14_1 (List.getD (g12_0 x0 32) 1 ByteArray.empty)) = Bool.true, Bool.true = Bool.true]) := by kernel_rfl
theorem p7_3 (x0 : ByteArray) : runF tab ext7 false 54 [] 2000 [] tys7 Tryz.f7.results [false, false, false, true] [.code b7] (entE 0 0 sig7 (x0, ())) (entL sig7 (x0, ())) = some ([Dyn.mk (Ty.cons (Ty.int IntKind.i64) (Ty.cons (Ty.int IntKind.i64) (Ty.cons (Ty.int IntKind.i64) Ty.unit))) (0, 0, 0, ()), Dyn.mk Ty.bool Bool.false], [], [P12 x0 32, ((↑(List.length (g12_0 x0 32)) : Int) != 2) = Bool.false, (0 : Int) ≤ (0 : Int), 0 < (↑(List.length (g12_0 x0 32)) : Int), P13 (List.getD (g12_0 x0 32) 0 ByteArray.empty), (0 : Int) ≤ (1 : Int), 1 < (↑(List.length (g12_0 x0 32)) : Int), P14 (List.getD (g12_0 x0 32) 1 ByteArray.empty), (!g13_1 (List.getD (g12_0 x0 32) 0 ByteArray.empty)) = Bool.false, (!g14_1 (List.getD (g12_0 x0 32) 1 ByteArray.empty)) = Bool.false, ((↑(List.length (g14_0 (List.getD (g12_0 x0 32) 1 ByteArray.empty))) : Int) != 2) = Bool.true]) := by kernel_rfl
theorem p7_4 (x0 : ByteArray) : runF tab ext7 false 54 [] 2000 [] tys7 Tryz.f7.results [false, false, false, false, true] [.code b7] (entE 0 0 sig7 (x0, ())) (entL sig7 (x0, ())) = some ([Dyn.mk (Ty.cons (Ty.int IntKind.i64) (Ty.cons (Ty.int IntKind.i64) (Ty.cons (Ty.int IntKind.i64) Ty.unit))) (0, 0, 0, ()), Dyn.mk Ty.bool Bool.false], [], [P12 x0 32, ((↑(List.length (g12_0 x0 32)) : Int) != 2) = Bool.false, (0 : Int) ≤ (0 : Int), 0 < (↑(List.length (g12_0 x0 32)) : Int), P13 (List.getD (g12_0 x0 32) 0 ByteArray.empty), (0 : Int) ≤ (1 : Int), 1 < (↑(List.length (g12_0 x0 32)) : Int), P14 (List.getD (g12_0 x0 32) 1 ByteArray.empty), (!g13_1 (List.getD (g12_0 x0 32) 0 ByteArray.empty)) = Bool.false, (!g14_1 (List.getD (g12_0 x0 32) 1 ByteArray.empty)) = Bool.false, ((↑(List.length (g14_0 (List.getD (g12_0 x0 32) 1 ByteArray.empty))) : Int) != 2) = Bool.false, (0 : Int) ≤ (0 : Int), 0 < (↑(List.length (g14_0 (List.getD (g12_0 x0 32) 1 ByteArray.empty))) : Int), (0 : Int) ≤ (1 : Int), 1 < (↑(List.length (g14_0 (List.getD (g12_0 x0 32) 1 ByteArray.empty))) : Int), True, (!g15_0 (g13_0 (List.getD (g12_0 x0 32) 0 ByteArray.empty), List.getD (g14_0 (List.getD (g12_0 x0 32) 1 ByteArray.empty)) 0 0, List.getD (g14_0 (List.getD (g12_0 x0 32) 1 ByteArray.empty)) 1 0, ())) = Bool.true]) := by kernel_rfl
theorem p7_5 (x0 : ByteArray) : runF tab ext7 false 54 [] 2000 [] tys7 Tryz.f7.results [false, false, false, false, false] [.code b7] (entE 0 0 sig7 (x0, ())) (entL sig7 (x0, ())) = some ([Dyn.mk (Ty.cons (Ty.int IntKind.i64) (Ty.cons (Ty.int IntKind.i64) (Ty.cons (Ty.int IntKind.i64) Ty.unit))) (g13_0 (List.getD (g12_0 x0 32) 0 ByteArray.empty), List.getD (g14_0 (List.getD (g12_0 x0 32) 1 ByteArray.empty)) 0 0, List.getD (g14_0 (List.getD (g12_0 x0 32) 1 ByteArray.empty)) 1 0, ()), Dyn.mk Ty.bool Bool.true], [], [P12 x0 32, ((↑(List.length (g12_0 x0 32)) : Int) != 2) = Bool.false, (0 : Int) ≤ (0 : Int), 0 < (↑(List.length (g12_0 x0 32)) : Int), P13 (List.getD (g12_0 x0 32) 0 ByteArray.empty), (0 : Int) ≤ (1 : Int), 1 < (↑(List.length (g12_0 x0 32)) : Int), P14 (List.getD (g12_0 x0 32) 1 ByteArray.empty), (!g13_1 (List.getD (g12_0 x0 32) 0 ByteArray.empty)) = Bool.false, (!g14_1 (List.getD (g12_0 x0 32) 1 ByteArray.empty)) = Bool.false, ((↑(List.length (g14_0 (List.getD (g12_0 x0 32) 1 ByteArray.empty))) : Int) != 2) = Bool.false, (0 : Int) ≤ (0 : Int), 0 < (↑(List.length (g14_0 (List.getD (g12_0 x0 32) 1 ByteArray.empty))) : Int), (0 : Int) ≤ (1 : Int), 1 < (↑(List.length (g14_0 (List.getD (g12_0 x0 32) 1 ByteArray.empty))) : Int), True, (!g15_0 (g13_0 (List.getD (g12_0 x0 32) 0 ByteArray.empty), List.getD (g14_0 (List.getD (g12_0 x0 32) 1 ByteArray.empty)) 0 0, List.getD (g14_0 (List.getD (g12_0 x0 32) 1 ByteArray.empty)) 1 0, ())) = Bool.false]) := by kernel_rfl
theorem at7 (x0 : ByteArray) (h : P7 x0) (w0 : World) (O : List Nat) (q : Nat → Value) : AtV Tryz.prog 7 (PostR [⟨Ty.cons (Ty.int IntKind.i64) (Ty.cons (Ty.int IntKind.i64) (Ty.cons (Ty.int IntKind.i64) Ty.unit)), g7_0 x0⟩, ⟨Ty.bool, g7_1 x0⟩] [] [] q w0 O) 54 w0 O q [] [.code b7] (entE 0 0 sig7 (x0, ())) (entL sig7 (x0, ())) := by
  unfold P7 at h
  unfold g7_0 g7_1
  obtain ⟨s0, h⟩ := h
  by_cases b0 : ((↑(List.length (g12_0 x0 32)) : Int) != 2) = true
  · try simp only [if_pos b0] at h ⊢
    exact AtV.fin Tryz.func7 tabOk ext7Ok mixed (p7_0 x0) ⟨s0, b0, trivial⟩
  · try simp only [if_neg b0] at h ⊢
    replace b0 := Bool.eq_false_iff.2 b0
    obtain ⟨s1, h⟩ := h
    obtain ⟨s2, h⟩ := h
    obtain ⟨s3, h⟩ := h
    obtain ⟨s4, h⟩ := h
    by_cases b1 : (!g13_1 (List.getD (g12_0 x0 32) 0 ByteArray.empty)) = true
    · try simp only [if_pos b1] at h ⊢
      exact AtV.fin Tryz.func7 tabOk ext7Ok mixed (p7_1 x0) ⟨s0, b0, (by decide), s1, s2, (by decide), s3, s4, b1, rfl, rfl, trivial⟩
    · try simp only [if_neg b1] at h ⊢
      replace b1 := Bool.eq_false_iff.2 b1
      by_cases b2 : (!g14_1 (List.getD (g12_0 x0 32) 1 ByteArray.empty)) = true
      · try simp only [if_pos b2] at h ⊢
        exact AtV.fin Tryz.func7 tabOk ext7Ok mixed (p7_2 x0) ⟨s0, b0, (by decide), s1, s2, (by decide), s3, s4, b1, b2, rfl, trivial⟩
      · try simp only [if_neg b2] at h ⊢
        replace b2 := Bool.eq_false_iff.2 b2
        by_cases b3 : ((↑(List.length (g14_0 (List.getD (g12_0 x0 32) 1 ByteArray.empty))) : Int) != 2) = true
        · try simp only [if_pos b3] at h ⊢
          exact AtV.fin Tryz.func7 tabOk ext7Ok mixed (p7_3 x0) ⟨s0, b0, (by decide), s1, s2, (by decide), s3, s4, b1, b2, b3, trivial⟩
        · try simp only [if_neg b3] at h ⊢
          replace b3 := Bool.eq_false_iff.2 b3
          obtain ⟨s5, h⟩ := h
          obtain ⟨s6, h⟩ := h
          by_cases b4 : (!g15_0 (g13_0 (List.getD (g12_0 x0 32) 0 ByteArray.empty), List.getD (g14_0 (List.getD (g12_0 x0 32) 1 ByteArray.empty)) 0 0, List.getD (g14_0 (List.getD (g12_0 x0 32) 1 ByteArray.empty)) 1 0, ())) = true
          · try simp only [if_pos b4] at h ⊢
            exact AtV.fin Tryz.func7 tabOk ext7Ok mixed (p7_4 x0) ⟨s0, b0, (by decide), s1, s2, (by decide), s3, s4, b1, b2, b3, (by decide), s5, (by decide), s6, trivial, b4, trivial⟩
          · try simp only [if_neg b4] at h ⊢
            replace b4 := Bool.eq_false_iff.2 b4
            exact AtV.fin Tryz.func7 tabOk ext7Ok mixed (p7_5 x0) ⟨s0, b0, (by decide), s1, s2, (by decide), s3, s4, b1, b2, b3, (by decide), s5, (by decide), s6, trivial, b4, trivial⟩

def S7 : Am.Spec := { sig := sig7, pre := fun ⟨x0, _⟩ => P7 x0, res := fun ⟨x0, _⟩ => [⟨Ty.cons (Ty.int IntKind.i64) (Ty.cons (Ty.int IntKind.i64) (Ty.cons (Ty.int IntKind.i64) Ty.unit)), g7_0 x0⟩, ⟨Ty.bool, g7_1 x0⟩] }
theorem con7 : Contract Tryz.prog 7 S7 := contract_of Tryz.func7 hb7 (Nat.le_of_ble_eq_true (by kernel_rfl)) (fun ⟨x0, _⟩ h _ w0 O q => at7 x0 h w0 O q)


end Go.Proofs.YthjgopkjdnhliaaGreatDoor

/- Function 4 (spec.ReadTest): its runs between cut points. Written by a program of this repo (gen). -/
set_option linter.unusedVariables false
set_option linter.unusedSimpArgs false
set_option maxRecDepth 100000
namespace Go.Proofs.YthjgopkjdnhliaaGreatDoor
open Go Go.Am Go.Proofs
def ext4 : Ext := [(7, S7)]
theorem call4_7 : Callable Tryz.prog 7 := ⟨Tryz.f7, Tryz.func7, by kernel_rfl, by kernel_rfl⟩
theorem ext4Ok : ExtOk Tryz.prog ext4 := ⟨⟨call4_7, con7⟩, trivial⟩
/-! Function 4. -/
noncomputable def b4 : Code := bodyOf Tryz.f4
theorem hb4 : Tryz.f4.body = some b4 := by kernel_rfl
def sig4 : List AT := [AT.v (Ty.str)]
def tys4 : List Ty := [Ty.cons (Ty.int IntKind.i64) (Ty.cons (Ty.int IntKind.i64) (Ty.cons (Ty.int IntKind.i64) Ty.unit)), Ty.bool]
def P4 (x0 : ByteArray) : Prop := ((P7 x0) ∧ True)
def g4_0 (x0 : ByteArray) : Int × Int × Int × Unit := g7_0 x0
def g4_1 (x0 : ByteArray) : Bool := g7_1 x0
theorem p4_0 (x0 : ByteArray) : runF tab ext4 false 8 [] 2000 [] tys4 Tryz.f4.results [] [.code b4] (entE 0 0 sig4 (x0, ())) (entL sig4 (x0, ())) = some ([Dyn.mk (Ty.cons (Ty.int IntKind.i64) (Ty.cons (Ty.int IntKind.i64) (Ty.cons (Ty.int IntKind.i64) Ty.unit))) (g7_0 x0), Dyn.mk Ty.bool (g7_1 x0)], [], [P7 x0]) := by kernel_rfl
theorem at4 (x0 : ByteArray) (h : P4 x0) (w0 : World) (O : List Nat) (q : Nat → Value) : AtV Tryz.prog 4 (PostR [⟨Ty.cons (Ty.int IntKind.i64) (Ty.cons (Ty.int IntKind.i64) (Ty.cons (Ty.int IntKind.i64) Ty.unit)), g4_0 x0⟩, ⟨Ty.bool, g4_1 x0⟩] [] [] q w0 O) 8 w0 O q [] [.code b4] (entE 0 0 sig4 (x0, ())) (entL sig4 (x0, ())) := by
  unfold P4 at h
  unfold g4_0 g4_1
  obtain ⟨s0, h⟩ := h
  exact AtV.fin Tryz.func4 tabOk ext4Ok mixed (p4_0 x0) ⟨s0, trivial⟩

def S4 : Am.Spec := { sig := sig4, pre := fun ⟨x0, _⟩ => P4 x0, res := fun ⟨x0, _⟩ => [⟨Ty.cons (Ty.int IntKind.i64) (Ty.cons (Ty.int IntKind.i64) (Ty.cons (Ty.int IntKind.i64) Ty.unit)), g4_0 x0⟩, ⟨Ty.bool, g4_1 x0⟩] }
theorem con4 : Contract Tryz.prog 4 S4 := contract_of Tryz.func4 hb4 (Nat.le_of_ble_eq_true (by kernel_rfl)) (fun ⟨x0, _⟩ h _ w0 O q => at4 x0 h w0 O q)


end Go.Proofs.YthjgopkjdnhliaaGreatDoor

/- Function 8 (strings.Cut): its contract, off what is known of the library. -/
set_option linter.unusedVariables false
set_option linter.unusedSimpArgs false
set_option maxRecDepth 100000
namespace Go.Proofs.YthjgopkjdnhliaaGreatDoor
open Go Go.Am Go.Proofs

def sig8 : List AT := [AT.v Ty.str, AT.v Ty.str]
def g8_0 (x0 x1 : ByteArray) : ByteArray := ⟨(Lib.cut x0.data.toList x1.data.toList).1.toArray⟩
def g8_1 (x0 x1 : ByteArray) : ByteArray := ⟨(Lib.cut x0.data.toList x1.data.toList).2.1.toArray⟩
def g8_2 (x0 x1 : ByteArray) : Bool := (Lib.cut x0.data.toList x1.data.toList).2.2
def P8 (x0 x1 : ByteArray) : Prop := x0.size < 4294967281
def S8 : Am.Spec := { sig := sig8, pre := fun ⟨x0, x1, _⟩ => P8 x0 x1, res := fun ⟨x0, x1, _⟩ => [⟨Ty.str, g8_0 x0 x1⟩, ⟨Ty.str, g8_1 x0 x1⟩, ⟨Ty.bool, g8_2 x0 x1⟩] }
theorem cutLen8 (s sep : List UInt8) : (Lib.cut s sep).1.length ≤ s.length ∧ (Lib.cut s sep).2.1.length ≤ s.length := by
  unfold Lib.cut
  split
  · exact ⟨by simp; omega, by simp⟩
  · exact ⟨Nat.le_refl _, Nat.zero_le _⟩
theorem con8 : Contract Tryz.prog 8 S8 := contract_flat rfl fun w ⟨x0, x1, _⟩ vs bss hg hp hw ha => by
  obtain ⟨v0, s0, _, _, rfl, _, ⟨_, rfl, _⟩, v1, s1, _, _, rfl, _, ⟨_, rfl, _⟩, rfl, _⟩ := ha
  have hp : x0.size < 4294967281 := hp
  obtain ⟨l1, l2⟩ := cutLen8 x0.data.toList x1.data.toList
  have e : x0.data.toList.length = x0.size := rfl
  refine ⟨fun d hd => ?_, ?_⟩
  · simp only [S8, List.mem_cons, List.mem_nil_iff, or_false] at hd
    rcases hd with rfl | rfl | rfl
    · refine ⟨rfl, ?_⟩
      show (List.toArray _).size ≤ maxLen
      rw [List.size_toArray]; unfold maxLen; omega
    · refine ⟨rfl, ?_⟩
      show (List.toArray _).size ≤ maxLen
      rw [List.size_toArray]; unfold maxLen; omega
    · exact ⟨rfl, trivial⟩
  · obtain ⟨m, hm⟩ := maxLenG hg
    refine (Tryz.strings_Cut x0 x1 m w hp hm).mono ?_
    rintro e w' ⟨rfl, n, rfl⟩
    exact ⟨rfl, ⟨rfl, rfl, rfl, Nat.le_refl _, fun _ _ _ => rfl⟩⟩

end Go.Proofs.YthjgopkjdnhliaaGreatDoor

/- Function 19 (impl.number): its runs between cut points. Written by a program of this repo (gen). -/
set_option linter.unusedVariables false
set_option linter.unusedSimpArgs false
set_option maxRecDepth 100000
namespace Go.Proofs.YthjgopkjdnhliaaGreatDoor
open Go Go.Am Go.Proofs
def ext19 : Ext := []
theorem ext19Ok : ExtOk Tryz.prog ext19 := trivial
/-! Function 19. -/
noncomputable def b19 : Code := bodyOf Tryz.f19
theorem hb19 : Tryz.f19.body = some b19 := by kernel_rfl
def sig19 : List AT := [AT.v (Ty.str)]
def tys19 : List Ty := [Ty.int IntKind.i64]
def E19_5 (v3 : Int) (v17 : Int) (x0 : ByteArray) : Env := [(3, PV.a (Atom.val (Value.int IntKind.i64 v3))), (15, PV.a (Atom.osl 0 Option.none)), (16, PV.a (Atom.val (Value.int IntKind.i64 (↑(List.length (bytesOf x0)) : Int)))), (17, PV.a (Atom.val (Value.int IntKind.i64 v17)))]
def L19_5 (v3 : Int) (v17 : Int) (x0 : ByteArray) : Heap := [Option.some (Arr.mk (Ty.int IntKind.u8) (bytesOf x0) Bool.false)]
mutual
def R19 : Nat → ByteArray → List Dyn → Prop
  | 0, _, _ => False
  | n + 1, x0, ds => (if (Decidable.decide ((↑(ByteArray.size x0) : Int) < 1)) = true then (ds = [Dyn.mk (Ty.int IntKind.i64) (-1)]) else (if (Decidable.decide ((↑(ByteArray.size x0) : Int) > 12)) = true then (ds = [Dyn.mk (Ty.int IntKind.i64) (-1)]) else (R19_5 n (0) (0) (x0) ds)))
def R19_5 : Nat → Int → Int → ByteArray → List Dyn → Prop
  | 0, _, _, _, _ => False
  | n + 1, v3, v17, x0, ds => (if (Decidable.decide (v17 < (↑(List.length (bytesOf x0)) : Int))) = true then ((0 ≤ v17) ∧ (v17 < (↑(List.length (bytesOf x0)) : Int)) ∧ (if (Decidable.decide (List.getD (bytesOf x0) (Int.toNat v17) 0 < 48)) = true then (ds = [Dyn.mk (Ty.int IntKind.i64) (-1)]) else (if (Decidable.decide (List.getD (bytesOf x0) (Int.toNat v17) 0 > 57)) = true then (ds = [Dyn.mk (Ty.int IntKind.i64) (-1)]) else ((InR IntKind.i64 (10 * v3)) ∧ ((InR IntKind.u8 (List.getD (bytesOf x0) (Int.toNat v17) 0 - 48)) ∧ ((InR IntKind.i64 (List.getD (bytesOf x0) (Int.toNat v17) 0 - 48)) ∧ ((InR IntKind.i64 (10 * v3 + (List.getD (bytesOf x0) (Int.toNat v17) 0 - 48))) ∧ ((InR IntKind.i64 (v17 + 1)) ∧ (R19_5 n (10 * v3 + (List.getD (bytesOf x0) (Int.toNat v17) 0 - 48)) (v17 + 1) (x0) ds))))))))) else (ds = [Dyn.mk (Ty.int IntKind.i64) v3]))
end
theorem p19_0 (x0 : ByteArray) : runF tab ext19 false 35 [] 2000 [] tys19 Tryz.f19.results [true, true] [.code b19] (entE 0 0 sig19 (x0, ())) (entL sig19 (x0, ())) = some ([Dyn.mk (Ty.int IntKind.i64) (-1)], [], [Decidable.decide ((↑(ByteArray.size x0) : Int) < 1) = Bool.true, Bool.true = Bool.true]) := by kernel_rfl
theorem p19_1 (x0 : ByteArray) : runF tab ext19 false 35 [] 2000 [] tys19 Tryz.f19.results [false, true] [.code b19] (entE 0 0 sig19 (x0, ())) (entL sig19 (x0, ())) = some ([Dyn.mk (Ty.int IntKind.i64) (-1)], [], [Decidable.decide ((↑(ByteArray.size x0) : Int) < 1) = Bool.false, Decidable.decide ((↑(ByteArray.size x0) : Int) > 12) = Bool.true]) := by kernel_rfl
theorem p19_2 (x0 : ByteArray) : Am.runN tab ext19 false 35 [] 2000 [] [] [3, 15, 16, 17] [0] [false, false] [.code b19] (entE 0 0 sig19 (x0, ())) (entL sig19 (x0, ())) = some (cutAt b19 5, E19_5 (0) (0) (x0), L19_5 (0) (0) (x0), [Decidable.decide ((↑(ByteArray.size x0) : Int) < 1) = Bool.false, Decidable.decide ((↑(ByteArray.size x0) : Int) > 12) = Bool.false]) := by kernel_rfl
theorem p19_3 (v3 : Int) (v17 : Int) (x0 : ByteArray) : runF tab ext19 false 35 [] 2000 [] tys19 Tryz.f19.results [true, true, true] (cutAt b19 5) (E19_5 v3 v17 x0) (L19_5 v3 v17 x0) = some ([Dyn.mk (Ty.int IntKind.i64) (-1)], [], [Decidable.decide (v17 < (↑(List.length (bytesOf x0)) : Int)) = Bool.true, 0 ≤ v17, v17 < (↑(List.length (bytesOf x0)) : Int), Decidable.decide (List.getD (bytesOf x0) (Int.toNat v17) 0 < 48) = Bool.true, Bool.true = Bool.true]) := by kernel_rfl
theorem p19_4 (v3 : Int) (v17 : Int) (x0 : ByteArray) : runF tab ext19 false 35 [] 2000 [] tys19 Tryz.f19.results [true, false, true] (cutAt b19 5) (E19_5 v3 v17 x0) (L19_5 v3 v17 x0) = some ([Dyn.mk (Ty.int IntKind.i64) (-1)], [], [Decidable.decide (v17 < (↑(List.length (bytesOf x0)) : Int)) = Bool.true, 0 ≤ v17, v17 < (↑(List.length (bytesOf x0)) : Int), Decidable.decide (List.getD (bytesOf x0) (Int.toNat v17) 0 < 48) = Bool.false, Decidable.decide (List.getD (bytesOf x0) (Int.toNat v17) 0 > 57) = Bool.true]) := by kernel_rfl
theorem p19_5 (v3 : Int) (v17 : Int) (x0 : ByteArray) : Am.runN tab ext19 false 35 [] 2000 [] [] [3, 15, 16, 17] [0] [true, false, false] (cutAt b19 5) (E19_5 v3 v17 x0) (L19_5 v3 v17 x0) = some (cutAt b19 5, E19_5 (10 * v3 + (List.getD (bytesOf x0) (Int.toNat v17) 0 - 48)) (v17 + 1) (x0), L19_5 (10 * v3 + (List.getD (bytesOf x0) (Int.toNat v17) 0 - 48)) (v17 + 1) (x0), [Decidable.decide (v17 < (↑(List.length (bytesOf x0)) : Int)) = Bool.true, 0 ≤ v17, v17 < (↑(List.length (bytesOf x0)) : Int), Decidable.decide (List.getD (bytesOf x0) (Int.toNat v17) 0 < 48) = Bool.false, Decidable.decide (List.getD (bytesOf x0) (Int.toNat v17) 0 > 57) = Bool.false, InR IntKind.i64 (10 * v3), InR IntKind.u8 (List.getD (bytesOf x0) (Int.toNat v17) 0 - 48), InR IntKind.i64 (List.getD (bytesOf x0) (Int.toNat v17) 0 - 48), InR IntKind.i64 (10 * v3 + (List.getD (bytesOf x0) (Int.toNat v17) 0 - 48)), InR IntKind.i64 (v17 + 1)]) := by kernel_rfl
theorem p19_6 (v3 : Int) (v17 : Int) (x0 : ByteArray) : runF tab ext19 false 35 [] 2000 [] tys19 Tryz.f19.results [false] (cutAt b19 5) (E19_5 v3 v17 x0) (L19_5 v3 v17 x0) = some ([Dyn.mk (Ty.int IntKind.i64) v3], [], [Decidable.decide (v17 < (↑(List.length (bytesOf x0)) : Int)) = Bool.false]) := by kernel_rfl
theorem snd19 : ∀ n, (∀ (x0 : ByteArray) ds, R19 n x0 ds → ∀ w0 O q, AtV Tryz.prog 19 (PostR ds [] [] q w0 O) 35 w0 O q [] [.code b19] (entE 0 0 sig19 (x0, ())) (entL sig19 (x0, ()))) ∧ (∀ (v3 : Int) (v17 : Int) (x0 : ByteArray) ds, R19_5 n v3 v17 x0 ds → ∀ w0 O q, AtV Tryz.prog 19 (PostR ds [] [] q w0 O) 35 w0 O q [] (cutAt b19 5) (E19_5 v3 v17 x0) (L19_5 v3 v17 x0)) := by
  intro n
  induction n with
  | zero => exact ⟨fun _ _ h => by simp only [R19] at h, fun _ _ _ _ h => by simp only [R19_5] at h⟩
  | succ n ih =>
  obtain ⟨ih, ih5⟩ := ih
  refine ⟨?_, ?_⟩
  · intro x0 ds h w0 O q
    rw [R19] at h
    by_cases b0 : (Decidable.decide ((↑(ByteArray.size x0) : Int) < 1)) = true
    · rw [if_pos b0] at h
      subst h
      exact AtV.fin Tryz.func19 tabOk ext19Ok mixed (p19_0 x0) ⟨b0, rfl, trivial⟩
    · rw [if_neg b0] at h
      replace b0 := Bool.eq_false_iff.2 b0
      by_cases b1 : (Decidable.decide ((↑(ByteArray.size x0) : Int) > 12)) = true
      · rw [if_pos b1] at h
        subst h
        exact AtV.fin Tryz.func19 tabOk ext19Ok mixed (p19_1 x0) ⟨b0, b1, trivial⟩
      · rw [if_neg b1] at h
        replace b1 := Bool.eq_false_iff.2 b1
        exact AtV.runN tabOk ext19Ok mixed (p19_2 x0) ⟨b0, b1, trivial⟩ (ih5 _ _ _ _ h w0 O q)

  · intro v3 v17 x0 ds h w0 O q
    rw [R19_5] at h
    by_cases b0 : (Decidable.decide (v17 < (↑(List.length (bytesOf x0)) : Int))) = true
    · rw [if_pos b0] at h
      obtain ⟨s0, s1, h⟩ := h
      by_cases b1 : (Decidable.decide (List.getD (bytesOf x0) (Int.toNat v17) 0 < 48)) = true
      · rw [if_pos b1] at h
        subst h
        exact AtV.fin Tryz.func19 tabOk ext19Ok mixed (p19_3 v3 v17 x0) ⟨b0, s0, s1, b1, rfl, trivial⟩
      · rw [if_neg b1] at h
        replace b1 := Bool.eq_false_iff.2 b1
        by_cases b2 : (Decidable.decide (List.getD (bytesOf x0) (Int.toNat v17) 0 > 57)) = true
        · rw [if_pos b2] at h
          subst h
          exact AtV.fin Tryz.func19 tabOk ext19Ok mixed (p19_4 v3 v17 x0) ⟨b0, s0, s1, b1, b2, trivial⟩
        · rw [if_neg b2] at h
          replace b2 := Bool.eq_false_iff.2 b2
          obtain ⟨s2, h⟩ := h
          obtain ⟨s3, h⟩ := h
          obtain ⟨s4, h⟩ := h
          obtain ⟨s5, h⟩ := h
          obtain ⟨s6, h⟩ := h
          exact AtV.runN tabOk ext19Ok mixed (p19_5 v3 v17 x0) ⟨b0, s0, s1, b1, b2, s2, s3, s4, s5, s6, trivial⟩ (ih5 _ _ _ _ h w0 O q)
    · rw [if_neg b0] at h
      replace b0 := Bool.eq_false_iff.2 b0
      subst h
      exact AtV.fin Tryz.func19 tabOk ext19Ok mixed (p19_6 v3 v17 x0) ⟨b0, trivial⟩



def num19 : List UInt8 → Int → Int
  | [], n => n
  | b :: r, n => if decide (48 ≤ b.toNat) && decide (b.toNat ≤ 57) then num19 r (10 * n + ((b.toNat : Int) - 48)) else -1
def g19_0 (x0 : ByteArray) : Int := if x0.size < 1 ∨ 12 < x0.size then -1 else num19 x0.data.toList 0
def P19 (x0 : ByteArray) : Prop := True

theorem run19 (x0 : ByteArray) (hs : x0.size ≤ 12) : ∀ (k i m : Nat), i + k = x0.size → m < 10 ^ i →
    R19_5 (k + 1) (m : Int) (i : Int) x0 [⟨.int .i64, num19 (x0.data.toList.drop i) (m : Int)⟩] := by
  intro k
  have hll : x0.data.toList.length = x0.size := rfl
  have hbl : (bytesOf x0).length = x0.size := by unfold bytesOf; rw [List.length_map]; rfl
  induction k with
  | zero =>
    intro i m hi hm
    rw [R19_5, if_neg (by rw [hbl]; simp; omega), List.drop_of_length_le (by omega)]
    rfl
  | succ k ih =>
    intro i m hi hm
    have hlt : i < x0.data.toList.length := by rw [hll]; omega
    have hcons : x0.data.toList.drop i = x0.data.toList.getD i 0 :: x0.data.toList.drop (i + 1) := drop_get _ i 0 hlt
    have hbyte : (bytesOf x0).getD i 0 = ((x0.data.toList.getD i 0).toNat : Int) := by
      unfold bytesOf
      rw [List.getD_eq_getElem?_getD, List.getD_eq_getElem?_getD, List.getElem?_map, List.getElem?_eq_getElem hlt]
      rfl
    rw [R19_5, if_pos (by rw [hbl]; simp; omega), hcons]
    simp only [Int.toNat_natCast, hbyte, hbl]
    generalize x0.data.toList.getD i 0 = b at *
    refine ⟨by omega, by omega, ?_⟩
    unfold num19
    by_cases h1 : b.toNat < 48
    · have h1' : (b.toNat : Int) < 48 := by omega
      have h1'' : ¬ 48 ≤ b.toNat := by omega
      simp [h1', h1'']
    · have h1' : ¬ (b.toNat : Int) < 48 := by omega
      have h1'' : 48 ≤ b.toNat := by omega
      by_cases h2 : b.toNat > 57
      · have h2' : (b.toNat : Int) > 57 := by omega
        have h2'' : ¬ b.toNat ≤ 57 := by omega
        simp [h1', h2', h2'']
      · have h2' : ¬ (b.toNat : Int) > 57 := by omega
        have h2'' : b.toNat ≤ 57 := by omega
        have hp : 10 ^ i ≤ 10 ^ 11 := Nat.pow_le_pow_right (by decide) (by omega)
        have hm2 : m < 100000000000 := Nat.lt_of_lt_of_le hm hp
        simp only [h1', h1'', h2', h2'', decide_true, decide_false, Bool.and_self, Bool.false_eq_true, if_false, if_true]
        refine ⟨by rw [i64_iff]; omega, by rw [u8_iff]; omega, by rw [i64_iff]; omega, by rw [i64_iff]; omega, by rw [i64_iff]; omega, ?_⟩
        have e1 : 10 * (m : Int) + ((b.toNat : Int) - 48) = ((10 * m + (b.toNat - 48) : Nat) : Int) := by omega
        have e2 : (i : Int) + 1 = ((i + 1 : Nat) : Int) := by omega
        rw [e1, e2]
        exact ih (i + 1) (10 * m + (b.toNat - 48)) (by omega) (by rw [Nat.pow_succ]; omega)

theorem top19 (x0 : ByteArray) : R19 (x0.size + 1 + 1) x0 [⟨.int .i64, g19_0 x0⟩] := by
  rw [R19]
  unfold g19_0
  by_cases h1 : x0.size < 1
  · rw [if_pos (by simp; omega), if_pos (.inl h1)]
  · rw [if_neg (by simp; omega)]
    by_cases h2 : 12 < x0.size
    · rw [if_pos (by simp; omega), if_pos (.inr h2)]
    · rw [if_neg (by simp; omega), if_neg (by omega)]
      exact run19 x0 (by omega) x0.size 0 0 (by omega) (by decide)

def S19 : Am.Spec := { sig := sig19, pre := fun ⟨x0, _⟩ => P19 x0, res := fun ⟨x0, _⟩ => [⟨.int .i64, g19_0 x0⟩] }
theorem con19 : Contract Tryz.prog 19 S19 := contract_of Tryz.func19 hb19 (Nat.le_of_ble_eq_true (by kernel_rfl)) (fun ⟨x0, _⟩ h hwf w0 O q =>
  (snd19 _).1 x0 _ (top19 x0) w0 O q)

end Go.Proofs.YthjgopkjdnhliaaGreatDoor

/- Function 18 (impl.DayNumber): its runs between cut points. Written by a program of this repo (gen). -/
set_option linter.unusedVariables false
set_option linter.unusedSimpArgs false
set_option maxRecDepth 100000
namespace Go.Proofs.YthjgopkjdnhliaaGreatDoor
open Go Go.Am Go.Proofs
def ext18 : Ext := [(32, S32), (33, S33), (34, S34)]
theorem call18_32 : Callable Tryz.prog 32 := ⟨Tryz.f32, Tryz.func32, by kernel_rfl, by kernel_rfl⟩
theorem call18_33 : Callable Tryz.prog 33 := ⟨Tryz.f33, Tryz.func33, by kernel_rfl, by kernel_rfl⟩
theorem call18_34 : Callable Tryz.prog 34 := ⟨Tryz.f34, Tryz.func34, by kernel_rfl, by kernel_rfl⟩
theorem ext18Ok : ExtOk Tryz.prog ext18 := ⟨⟨call18_32, con32⟩, ⟨call18_33, con33⟩, ⟨call18_34, con34⟩, trivial⟩
/-! Function 18. -/
noncomputable def b18 : Code := bodyOf Tryz.f18
theorem hb18 : Tryz.f18.body = some b18 := by kernel_rfl
def sig18 : List AT := [AT.v (Ty.int IntKind.i64), AT.v (Ty.int IntKind.i64), AT.v (Ty.int IntKind.i64)]
def tys18 : List Ty := [Ty.int IntKind.i64, Ty.int IntKind.i64]
def P18 (x0 : Int) (x1 : Int) (x2 : Int) : Prop := (if (!g32_0 x0 2000 2099) = true then True else (if (!g32_0 x1 1 12) = true then True else ((P33 x0 x1) ∧ (if (!g32_0 x2 1 (g33_0 x0 x1)) = true then True else ((P34 x0 x1 x2) ∧ True)))))
def g18_0 (x0 : Int) (x1 : Int) (x2 : Int) : Int := (if (!g32_0 x0 2000 2099) = true then 0 else (if (!g32_0 x1 1 12) = true then 0 else (if (!g32_0 x2 1 (g33_0 x0 x1)) = true then 0 else g34_0 x0 x1 x2)))
def g18_1 (x0 : Int) (x1 : Int) (x2 : Int) : Int := (if (!g32_0 x0 2000 2099) = true then 2 else (if (!g32_0 x1 1 12) = true then 2 else (if (!g32_0 x2 1 (g33_0 x0 x1)) = true then 2 else 0)))
theorem p18_0 (x0 : Int) (x1 : Int) (x2 : Int) : runF tab ext18 false 28 [] 2000 [] tys18 Tryz.f18.results [true, true, true] [.code b18] (entE 0 0 sig18 (x0, x1, x2, ())) (entL sig18 (x0, x1, x2, ())) = some ([Dyn.mk (Ty.int IntKind.i64) 0, Dyn.mk (Ty.int IntKind.i64) 2], [], [True, (!g32_0 x0 2000 2099) = Bool.true, Bool.true = Bool.true, Bool.true = Bool.true]) := by kernel_rfl
theorem p18_1 (x0 : Int) (x1 : Int) (x2 : Int) : runF tab ext18 false 28 [] 2000 [] tys18 Tryz.f18.results [false, true, true] [.code b18] (entE 0 0 sig18 (x0, x1, x2, ())) (entL sig18 (x0, x1, x2, ())) = some ([Dyn.mk (Ty.int IntKind.i64) 0, Dyn.mk (Ty.int IntKind.i64) 2], [], [True, (!g32_0 x0 2000 2099) = Bool.false, True, (!g32_0 x1 1 12) = Bool.true, Bool.true = Bool.true]) := by kernel_rfl
theorem p18_2 (x0 : Int) (x1 : Int) (x2 : Int) : runF tab ext18 false 28 [] 2000 [] tys18 Tryz.f18.results [false, false, true] [.code b18] (entE 0 0 sig18 (x0, x1, x2, ())) (entL sig18 (x0, x1, x2, ())) = some ([Dyn.mk (Ty.int IntKind.i64) 0, Dyn.mk (Ty.int IntKind.i64) 2], [], [True, (!g32_0 x0 2000 2099) = Bool.false, True, (!g32_0 x1 1 12) = Bool.false, P33 x0 x1, True, (!g32_0 x2 1 (g33_0 x0 x1)) = Bool.true]) := by kernel_rfl
theorem p18_3 (x0 : Int) (x1 : Int) (x2 : Int) : runF tab ext18 false 28 [] 2000 [] tys18 Tryz.f18.results [false, false, false] [.code b18] (entE 0 0 sig18 (x0, x1, x2, ())) (entL sig18 (x0, x1, x2, ())) = some ([Dyn.mk (Ty.int IntKind.i64) (g34_0 x0 x1 x2), Dyn.mk (Ty.int IntKind.i64) 0], [], [True, (!g32_0 x0 2000 2099) = Bool.false, True, (!g32_0 x1 1 12) = Bool.false, P33 x0 x1, True, (!g32_0 x2 1 (g33_0 x0 x1)) = Bool.false, P34 x0 x1 x2]) := by kernel_rfl
theorem at18 (x0 : Int) (x1 : Int) (x2 : Int) (h : P18 x0 x1 x2) (w0 : World) (O : List Nat) (q : Nat → Value) : AtV Tryz.prog 18 (PostR [⟨Ty.int IntKind.i64, g18_0 x0 x1 x2⟩, ⟨Ty.int IntKind.i64, g18_1 x0 x1 x2⟩] [] [] q w0 O) 28 w0 O q [] [.code b18] (entE 0 0 sig18 (x0, x1, x2, ())) (entL sig18 (x0, x1, x2, ())) := by
  unfold P18 at h
  unfold g18_0 g18_1
  by_cases b0 : (!g32_0 x0 2000 2099) = true
  · try simp only [if_pos b0] at h ⊢
    exact AtV.fin Tryz.func18 tabOk ext18Ok mixed (p18_0 x0 x1 x2) ⟨trivial, b0, rfl, rfl, trivial⟩
  · try simp only [if_neg b0] at h ⊢
    replace b0 := Bool.eq_false_iff.2 b0
    by_cases b1 : (!g32_0 x1 1 12) = true
    · try simp only [if_pos b1] at h ⊢
      exact AtV.fin Tryz.func18 tabOk ext18Ok mixed (p18_1 x0 x1 x2) ⟨trivial, b0, trivial, b1, rfl, trivial⟩
    · try simp only [if_neg b1] at h ⊢
      replace b1 := Bool.eq_false_iff.2 b1
      obtain ⟨s0, h⟩ := h
      by_cases b2 : (!g32_0 x2 1 (g33_0 x0 x1)) = true
      · try simp only [if_pos b2] at h ⊢
        exact AtV.fin Tryz.func18 tabOk ext18Ok mixed (p18_2 x0 x1 x2) ⟨trivial, b0, trivial, b1, s0, trivial, b2, trivial⟩
      · try simp only [if_neg b2] at h ⊢
        replace b2 := Bool.eq_false_iff.2 b2
        obtain ⟨s1, h⟩ := h
        exact AtV.fin Tryz.func18 tabOk ext18Ok mixed (p18_3 x0 x1 x2) ⟨trivial, b0, trivial, b1, s0, trivial, b2, s1, trivial⟩

def S18 : Am.Spec := { sig := sig18, pre := fun ⟨x0, x1, x2, _⟩ => P18 x0 x1 x2, res := fun ⟨x0, x1, x2, _⟩ => [⟨Ty.int IntKind.i64, g18_0 x0 x1 x2⟩, ⟨Ty.int IntKind.i64, g18_1 x0 x1 x2⟩] }
theorem con18 : Contract Tryz.prog 18 S18 := contract_of Tryz.func18 hb18 (Nat.le_of_ble_eq_true (by kernel_rfl)) (fun ⟨x0, x1, x2, _⟩ h _ w0 O q => at18 x0 x1 x2 h w0 O q)


end Go.Proofs.YthjgopkjdnhliaaGreatDoor

/- Function 9 (impl.ReadDate): its runs between cut points. Written by a program of this repo (gen). -/
set_option linter.unusedVariables false
set_option linter.unusedSimpArgs false
set_option maxRecDepth 100000
namespace Go.Proofs.YthjgopkjdnhliaaGreatDoor
open Go Go.Am Go.Proofs
def ext9 : Ext := [(17, S17), (19, S19), (18, S18), (20, S20)]
theorem call9_17 : Callable Tryz.prog 17 := ⟨Tryz.f17, Tryz.func17, by kernel_rfl, by kernel_rfl⟩
theorem call9_19 : Callable Tryz.prog 19 := ⟨Tryz.f19, Tryz.func19, by kernel_rfl, by kernel_rfl⟩
theorem call9_18 : Callable Tryz.prog 18 := ⟨Tryz.f18, Tryz.func18, by kernel_rfl, by kernel_rfl⟩
theorem call9_20 : Callable Tryz.prog 20 := ⟨Tryz.f20, Tryz.func20, by kernel_rfl, by kernel_rfl⟩
theorem ext9Ok : ExtOk Tryz.prog ext9 := ⟨⟨call9_17, con17⟩, ⟨call9_19, con19⟩, ⟨call9_18, con18⟩, ⟨call9_20, con20⟩, trivial⟩
/-! Function 9. -/
noncomputable def b9 : Code := bodyOf Tryz.f9
theorem hb9 : Tryz.f9.body = some b9 := by kernel_rfl
def sig9 : List AT := [AT.v (Ty.str)]
def tys9 : List Ty := [Ty.int IntKind.i64, Ty.bool]
def P9 (x0 : ByteArray) : Prop := ((P17 x0 (ByteArray.mk #[45])) ∧ (if ((↑(List.length (g17_0 x0 (ByteArray.mk #[45]))) : Int) != 3) = true then True else ((0 < (↑(List.length (g17_0 x0 (ByteArray.mk #[45]))) : Int)) ∧ ((1 < (↑(List.length (g17_0 x0 (ByteArray.mk #[45]))) : Int)) ∧ ((2 < (↑(List.length (g17_0 x0 (ByteArray.mk #[45]))) : Int)) ∧ ((P18 (g19_0 (List.getD (g17_0 x0 (ByteArray.mk #[45])) 0 ByteArray.empty)) (g19_0 (List.getD (g17_0 x0 (ByteArray.mk #[45])) 1 ByteArray.empty)) (g19_0 (List.getD (g17_0 x0 (ByteArray.mk #[45])) 2 ByteArray.empty))) ∧ (if (g18_1 (g19_0 (List.getD (g17_0 x0 (ByteArray.mk #[45])) 0 ByteArray.empty)) (g19_0 (List.getD (g17_0 x0 (ByteArray.mk #[45])) 1 ByteArray.empty)) (g19_0 (List.getD (g17_0 x0 (ByteArray.mk #[45])) 2 ByteArray.empty)) != 0) = true then True else ((P20 (g18_0 (g19_0 (List.getD (g17_0 x0 (ByteArray.mk #[45])) 0 ByteArray.empty)) (g19_0 (List.getD (g17_0 x0 (ByteArray.mk #[45])) 1 ByteArray.empty)) (g19_0 (List.getD (g17_0 x0 (ByteArray.mk #[45])) 2 ByteArray.empty)))) ∧ True))))))))
def g9_0 (x0 : ByteArray) : Int := (if ((↑(List.length (g17_0 x0 (ByteArray.mk #[45]))) : Int) != 3) = true then 0 else (if (g18_1 (g19_0 (List.getD (g17_0 x0 (ByteArray.mk #[45])) 0 ByteArray.empty)) (g19_0 (List.getD (g17_0 x0 (ByteArray.mk #[45])) 1 ByteArray.empty)) (g19_0 (List.getD (g17_0 x0 (ByteArray.mk #[45])) 2 ByteArray.empty)) != 0) = true then 0 else (if (!ByteArray.toList (g20_0 (g18_0 (g19_0 (List.getD (g17_0 x0 (ByteArray.mk #[45])) 0 ByteArray.empty)) (g19_0 (List.getD (g17_0 x0 (ByteArray.mk #[45])) 1 ByteArray.empty)) (g19_0 (List.getD (g17_0 x0 (ByteArray.mk #[45])) 2 ByteArray.empty)))) == ByteArray.toList x0) = true then 0 else g18_0 (g19_0 (List.getD (g17_0 x0 (ByteArray.mk #[45])) 0 ByteArray.empty)) (g19_0 (List.getD (g17_0 x0 (ByteArray.mk #[45])) 1 ByteArray.empty)) (g19_0 (List.getD (g17_0 x0 (ByteArray.mk #[45])) 2 ByteArray.empty)))))
def g9_1 (x0 : ByteArray) : Bool := (if ((↑(List.length (g17_0 x0 (ByteArray.mk #[45]))) : Int) != 3) = true then Bool.false else (if (g18_1 (g19_0 (List.getD (g17_0 x0 (ByteArray.mk #[45])) 0 ByteArray.empty)) (g19_0 (List.getD (g17_0 x0 (ByteArray.mk #[45])) 1 ByteArray.empty)) (g19_0 (List.getD (g17_0 x0 (ByteArray.mk #[45])) 2 ByteArray.empty)) != 0) = true then Bool.false else (if (!ByteArray.toList (g20_0 (g18_0 (g19_0 (List.getD (g17_0 x0 (ByteArray.mk #[45])) 0 ByteArray.empty)) (g19_0 (List.getD (g17_0 x0 (ByteArray.mk #[45])) 1 ByteArray.empty)) (g19_0 (List.getD (g17_0 x0 (ByteArray.mk #[45])) 2 ByteArray.empty)))) == ByteArray.toList x0) = true then Bool.false else Bool.true)))
theorem p9_0 (x0 : ByteArray) : runF tab ext9 false 37 [] 2000 [] tys9 Tryz.f9.results [true] [.code b9] (entE 0 0 sig9 (x0, ())) (entL sig9 (x0, ())) = some ([Dyn.mk (Ty.int IntKind.i64) 0, Dyn.mk Ty.bool Bool.false], [], [P17 x0 (ByteArray.mk #[45]), ((↑(List.length (g17_0 x0 (ByteArray.mk #[45]))) : Int) != 3) = Bool.true]) := by kernel_rfl
theorem p9_1 (x0 : ByteArray) : runF tab ext9 false 37 [] 2000 [] tys9 Tryz.f9.results [false, true, true] [.code b9] (entE 0 0 sig9 (x0, ())) (entL sig9 (x0, ())) = some ([Dyn.mk (Ty.int IntKind.i64) 0, Dyn.mk Ty.bool Bool.false], [], [P17 x0 (ByteArray.mk #[45]), ((↑(List.length (g17_0 x0 (ByteArray.mk #[45]))) : Int) != 3) = Bool.false, (0 : Int) ≤ (0 : Int), 0 < (↑(List.length (g17_0 x0 (ByteArray.mk #[45]))) : Int), True, (0 : Int) ≤ (1 : Int), 1 < (↑(List.length (g17_0 x0 (ByteArray.mk #[45]))) : Int), True, (0 : Int) ≤ (2 : Int), 2 < (↑(List.length (g17_0 x0 (ByteArray.mk #[45]))) : Int), True, P18 (g19_0 (List.getD (g17_0 x0 (ByteArray.mk #[45])) 0 ByteArray.empty)) (g19_0 (List.getD (g17_0 x0 (ByteArray.mk #[45])) 1 ByteArray.empty)) (g19_0 (List.getD (g17_0 x0 (ByteArray.mk #[45])) 2 ByteArray.empty)), (g18_1 (g19_0 (List.getD (g17_0 x0 (ByteArray.mk #[45])) 0 ByteArray.empty)) (g19_0 (List.getD (g17_0 x0 (ByteArray.mk #[45])) 1 ByteArray.empty)) (g19_0 (List.getD (g17_0 x0 (ByteArray.mk #[45])) 2 ByteArray.empty)) != 0) = Bool.true, Bool.true = Bool.true]) := by kernel_rfl
theorem p9_2 (x0 : ByteArray) : runF tab ext9 false 37 [] 2000 [] tys9 Tryz.f9.results [false, false, true] [.code b9] (entE 0 0 sig9 (x0, ())) (entL sig9 (x0, ())) = some ([Dyn.mk (Ty.int IntKind.i64) 0, Dyn.mk Ty.bool Bool.false], [], [P17 x0 (ByteArray.mk #[45]), ((↑(List.length (g17_0 x0 (ByteArray.mk #[45]))) : Int) != 3) = Bool.false, (0 : Int) ≤ (0 : Int), 0 < (↑(List.length (g17_0 x0 (ByteArray.mk #[45]))) : Int), True, (0 : Int) ≤ (1 : Int), 1 < (↑(List.length (g17_0 x0 (ByteArray.mk #[45]))) : Int), True, (0 : Int) ≤ (2 : Int), 2 < (↑(List.length (g17_0 x0 (ByteArray.mk #[45]))) : Int), True, P18 (g19_0 (List.getD (g17_0 x0 (ByteArray.mk #[45])) 0 ByteArray.empty)) (g19_0 (List.getD (g17_0 x0 (ByteArray.mk #[45])) 1 ByteArray.empty)) (g19_0 (List.getD (g17_0 x0 (ByteArray.mk #[45])) 2 ByteArray.empty)), (g18_1 (g19_0 (List.getD (g17_0 x0 (ByteArray.mk #[45])) 0 ByteArray.empty)) (g19_0 (List.getD (g17_0 x0 (ByteArray.mk #[45])) 1 ByteArray.empty)) (g19_0 (List.getD (g17_0 x0 (ByteArray.mk #[45])) 2 ByteArray.empty)) != 0) = Bool.false, P20 (g18_0 (g19_0 (List.getD (g17_0 x0 (ByteArray.mk #[45])) 0 ByteArray.empty)) (g19_0 (List.getD (g17_0 x0 (ByteArray.mk #[45])) 1 ByteArray.empty)) (g19_0 (List.getD (g17_0 x0 (ByteArray.mk #[45])) 2 ByteArray.empty))), (!ByteArray.toList (g20_0 (g18_0 (g19_0 (List.getD (g17_0 x0 (ByteArray.mk #[45])) 0 ByteArray.empty)) (g19_0 (List.getD (g17_0 x0 (ByteArray.mk #[45])) 1 ByteArray.empty)) (g19_0 (List.getD (g17_0 x0 (ByteArray.mk #[45])) 2 ByteArray.empty)))) == ByteArray.toList x0) = Bool.true]) := by kernel_rfl
theorem p9_3 (x0 : ByteArray) : runF tab ext9 false 37 [] 2000 [] tys9 Tryz.f9.results [false, false, false] [.code b9] (entE 0 0 sig9 (x0, ())) (entL sig9 (x0, ())) = some ([Dyn.mk (Ty.int IntKind.i64) (g18_0 (g19_0 (List.getD (g17_0 x0 (ByteArray.mk #[45])) 0 ByteArray.empty)) (g19_0 (List.getD (g17_0 x0 (ByteArray.mk #[45])) 1 ByteArray.empty)) (g19_0 (List.getD (g17_0 x0 (ByteArray.mk #[45])) 2 ByteArray.empty))), Dyn.mk Ty.bool Bool.true], [], [P17 x0 (ByteArray.mk #[45]), ((↑(List.length (g17_0 x0 (ByteArray.mk #[45]))) : Int) != 3) = Bool.false, (0 : Int) ≤ (0 : Int), 0 < (↑(List.length (g17_0 x0 (ByteArray.mk #[45]))) : Int), True, (0 : Int) ≤ (1 : Int), 1 < (↑(List.length (g17_0 x0 (ByteArray.mk #[45]))) : Int), True, (0 : Int) ≤ (2 : Int), 2 < (↑(List.length (g17_0 x0 (ByteArray.mk #[45]))) : Int), True, P18 (g19_0 (List.getD (g17_0 x0 (ByteArray.mk #[45])) 0 ByteArray.empty)) (g19_0 (List.getD (g17_0 x0 (ByteArray.mk #[45])) 1 ByteArray.empty)) (g19_0 (List.getD (g17_0 x0 (ByteArray.mk #[45])) 2 ByteArray.empty)), (g18_1 (g19_0 (List.getD (g17_0 x0 (ByteArray.mk #[45])) 0 ByteArray.empty)) (g19_0 (List.getD (g17_0 x0 (ByteArray.mk #[45])) 1 ByteArray.empty)) (g19_0 (List.getD (g17_0 x0 (ByteArray.mk #[45])) 2 ByteArray.empty)) != 0) = Bool.false, P20 (g18_0 (g19_0 (List.getD (g17_0 x0 (ByteArray.mk #[45])) 0 ByteArray.empty)) (g19_0 (List.getD (g17_0 x0 (ByteArray.mk #[45])) 1 ByteArray.empty)) (g19_0 (List.getD (g17_0 x0 (ByteArray.mk #[45])) 2 ByteArray.empty))), (!ByteArray.toList (g20_0 (g18_0 (g19_0 (List.getD (g17_0 x0 (ByteArray.mk #[45])) 0 ByteArray.empty)) (g19_0 (List.getD (g17_0 x0 (ByteArray.mk #[45])) 1 ByteArray.empty)) (g19_0 (List.getD (g17_0 x0 (ByteArray.mk #[45])) 2 ByteArray.empty)))) == ByteArray.toList x0) = Bool.false]) := by kernel_rfl
theorem at9 (x0 : ByteArray) (h : P9 x0) (w0 : World) (O : List Nat) (q : Nat → Value) : AtV Tryz.prog 9 (PostR [⟨Ty.int IntKind.i64, g9_0 x0⟩, ⟨Ty.bool, g9_1 x0⟩] [] [] q w0 O) 37 w0 O q [] [.code b9] (entE 0 0 sig9 (x0, ())) (entL sig9 (x0, ())) := by
  unfold P9 at h
  unfold g9_0 g9_1
  obtain ⟨s0, h⟩ := h
  by_cases b0 : ((↑(List.length (g17_0 x0 (ByteArray.mk #[45]))) : Int) != 3) = true
  · try simp only [if_pos b0] at h ⊢
    exact AtV.fin Tryz.func9 tabOk ext9Ok mixed (p9_0 x0) ⟨s0, b0, trivial⟩
  · try simp only [if_neg b0] at h ⊢
    replace b0 := Bool.eq_false_iff.2 b0
    obtain ⟨s1, h⟩ := h
    obtain ⟨s2, h⟩ := h
    obtain ⟨s3, h⟩ := h
    obtain ⟨s4, h⟩ := h
    by_cases b1 : (g18_1 (g19_0 (List.getD (g17_0 x0 (ByteArray.mk #[45])) 0 ByteArray.empty)) (g19_0 (List.getD (g17_0 x0 (ByteArray.mk #[45])) 1 ByteArray.empty)) (g19_0 (List.getD (g17_0 x0 (ByteArray.mk #[45])) 2 ByteArray.empty)) != 0) = true
    · try simp only [if_pos b1] at h ⊢
      exact AtV.fin Tryz.func9 tabOk ext9Ok mixed (p9_1 x0) ⟨s0, b0, (by decide), s1, trivial, (by decide), s2, trivial, (by decide), s3, trivial, s4, b1, rfl, trivial⟩
    · try simp only [if_neg b1] at h ⊢
      replace b1 := Bool.eq_false_iff.2 b1
      obtain ⟨s5, h⟩ := h
      by_cases b2 : (!ByteArray.toList (g20_0 (g18_0 (g19_0 (List.getD (g17_0 x0 (ByteArray.mk #[45])) 0 ByteArray.empty)) (g19_0 (List.getD (g17_0 x0 (ByteArray.mk #[45])) 1 ByteArray.empty)) (g19_0 (List.getD (g17_0 x0 (ByteArray.mk #[45])) 2 ByteArray.empty)))) == ByteArray.toList x0) = true
      · try simp only [if_pos b2] at h ⊢
        exact AtV.fin Tryz.func9 tabOk ext9Ok mixed (p9_2 x0) ⟨s0, b0, (by decide), s1, trivial, (by decide), s2, trivial, (by decide), s3, trivial, s4, b1, s5, b2, trivial⟩
      · try simp only [if_neg b2] at h ⊢
        replace b2 := Bool.eq_false_iff.2 b2
        exact AtV.fin Tryz.func9 tabOk ext9Ok mixed (p9_3 x0) ⟨s0, b0, (by decide), s1, trivial, (by decide), s2, trivial, (by decide), s3, trivial, s4, b1, s5, b2, trivial⟩

def S9 : Am.Spec := { sig := sig9, pre := fun ⟨x0, _⟩ => P9 x0, res := fun ⟨x0, _⟩ => [⟨Ty.int IntKind.i64, g9_0 x0⟩, ⟨Ty.bool, g9_1 x0⟩] }
theorem con9 : Contract Tryz.prog 9 S9 := contract_of Tryz.func9 hb9 (Nat.le_of_ble_eq_true (by kernel_rfl)) (fun ⟨x0, _⟩ h _ w0 O q => at9 x0 h w0 O q)


end Go.Proofs.YthjgopkjdnhliaaGreatDoor

/- Function 10 (impl.readNumbers): its runs between cut points. Written by a program of this repo (gen). -/
set_option linter.unusedVariables false
set_option linter.unusedSimpArgs false
set_option maxRecDepth 100000
namespace Go.Proofs.YthjgopkjdnhliaaGreatDoor
open Go Go.Am Go.Proofs
def ext10 : Ext := [(21, S21)]
theorem call10_21 : Callable Tryz.prog 21 := ⟨Tryz.f21, Tryz.func21, by kernel_rfl, by kernel_rfl⟩
theorem ext10Ok : ExtOk Tryz.prog ext10 := ⟨⟨call10_21, con21⟩, trivial⟩
/-! Function 10. -/
noncomputable def b10 : Code := bodyOf Tryz.f10
theorem hb10 : Tryz.f10.body = some b10 := by kernel_rfl
def sig10 : List AT := [AT.v (Ty.str), AT.v (Ty.int IntKind.i64)]
def tys10 : List Ty := [Ty.sl (Ty.int IntKind.i64), Ty.bool]
def P10 (x0 : ByteArray) (x1 : Int) : Prop := ((P21 x0) ∧ True)
def g10_0 (x0 : ByteArray) (x1 : Int) : List Int := g21_0 x0
def g10_1 (x0 : ByteArray) (x1 : Int) : Bool := (↑(List.length (g21_0 x0)) : Int) == x1
theorem p10_0 (x0 : ByteArray) (x1 : Int) : runF tab ext10 false 18 [] 2000 [] tys10 Tryz.f10.results [] [.code b10] (entE 0 0 sig10 (x0, x1, ())) (entL sig10 (x0, x1, ())) = some ([Dyn.mk (Ty.sl (Ty.int IntKind.i64)) (g21_0 x0), Dyn.mk Ty.bool ((↑(List.length (g21_0 x0)) : Int) == x1)], [], [P21 x0]) := by kernel_rfl
theorem at10 (x0 : ByteArray) (x1 : Int) (h : P10 x0 x1) (w0 : World) (O : List Nat) (q : Nat → Value) : AtV Tryz.prog 10 (PostR [⟨Ty.sl (Ty.int IntKind.i64), g10_0 x0 x1⟩, ⟨Ty.bool, g10_1 x0 x1⟩] [] [] q w0 O) 18 w0 O q [] [.code b10] (entE 0 0 sig10 (x0, x1, ())) (entL sig10 (x0, x1, ())) := by
  unfold P10 at h
  unfold g10_0 g10_1
  obtain ⟨s0, h⟩ := h
  exact AtV.fin Tryz.func10 tabOk ext10Ok mixed (p10_0 x0 x1) ⟨s0, trivial⟩

def S10 : Am.Spec := { sig := sig10, pre := fun ⟨x0, x1, _⟩ => P10 x0 x1, res := fun ⟨x0, x1, _⟩ => [⟨Ty.sl (Ty.int IntKind.i64), g10_0 x0 x1⟩, ⟨Ty.bool, g10_1 x0 x1⟩] }
theorem con10 : Contract Tryz.prog 10 S10 := contract_of Tryz.func10 hb10 (Nat.le_of_ble_eq_true (by kernel_rfl)) (fun ⟨x0, x1, _⟩ h _ w0 O q => at10 x0 x1 h w0 O q)


end Go.Proofs.YthjgopkjdnhliaaGreatDoor

/- Function 5 (impl.ReadTest): its runs between cut points. Written by a program of this repo (gen). -/
set_option linter.unusedVariables false
set_option linter.unusedSimpArgs false
set_option maxRecDepth 100000
namespace Go.Proofs.YthjgopkjdnhliaaGreatDoor
open Go Go.Am Go.Proofs
def ext5 : Ext := [(8, S8), (9, S9), (10, S10), (11, S11)]
theorem call5_8 : Callable Tryz.prog 8 := ⟨Tryz.f8, Tryz.func8, by kernel_rfl, by kernel_rfl⟩
theorem call5_9 : Callable Tryz.prog 9 := ⟨Tryz.f9, Tryz.func9, by kernel_rfl, by kernel_rfl⟩
theorem call5_10 : Callable Tryz.prog 10 := ⟨Tryz.f10, Tryz.func10, by kernel_rfl, by kernel_rfl⟩
theorem call5_11 : Callable Tryz.prog 11 := ⟨Tryz.f11, Tryz.func11, by kernel_rfl, by kernel_rfl⟩
theorem ext5Ok : ExtOk Tryz.prog ext5 := ⟨⟨call5_8, con8⟩, ⟨call5_9, con9⟩, ⟨call5_10, con10⟩, ⟨call5_11, con11⟩, trivial⟩
/-! Function 5. -/
noncomputable def b5 : Code := bodyOf Tryz.f5
theorem hb5 : Tryz.f5.body = some b5 := by kernel_rfl
def sig5 : List AT := [AT.v (Ty.str)]
def tys5 : List Ty := [Ty.cons (Ty.int IntKind.i64) (Ty.cons (Ty.int IntKind.i64) (Ty.cons (Ty.int IntKind.i64) Ty.unit)), Ty.bool]
def P5 (x0 : ByteArray) : Prop := ((P8 x0 (ByteArray.mk #[32])) ∧ ((P9 (g8_0 x0 (ByteArray.mk #[32]))) ∧ ((P10 (g8_1 x0 (ByteArray.mk #[32])) 2) ∧ (if (!g9_1 (g8_0 x0 (ByteArray.mk #[32]))) = true then True else (if (!g10_1 (g8_1 x0 (ByteArray.mk #[32])) 2) = true then True else ((0 < (↑(List.length (g10_0 (g8_1 x0 (ByteArray.mk #[32])) 2)) : Int)) ∧ ((1 < (↑(List.length (g10_0 (g8_1 x0 (ByteArray.mk #[32])) 2)) : Int)) ∧ ((P11 (g9_0 (g8_0 x0 (ByteArray.mk #[32])), List.getD (g10_0 (g8_1 x0 (ByteArray.mk #[32])) 2) 0 0, List.getD (g10_0 (g8_1 x0 (ByteArray.mk #[32])) 2) 1 0, ())) ∧ True))))))))
def g5_0 (x0 : ByteArray) : Int × Int × Int × Unit := (if (!g9_1 (g8_0 x0 (ByteArray.mk #[32]))) = true then (0, 0, 0, ()) else (if (!g10_1 (g8_1 x0 (ByteArray.mk #[32])) 2) = true then (0, 0, 0, ()) else (if (!ByteArray.toList (g11_0 (g9_0 (g8_0 x0 (ByteArray.mk #[32])), List.getD (g10_0 (g8_1 x0 (ByteArray.mk #[32])) 2) 0 0, List.getD (g10_0 (g8_1 x0 (ByteArray.mk #[32])) 2) 1 0, ())) == ByteArray.toList x0) = true then (0, 0, 0, ()) else (g9_0 (g8_0 x0 (ByteArray.mk #[32])), List.getD (g10_0 (g8_1 x0 (ByteArray.mk #[32])) 2) 0 0, List.getD (g10_0 (g8_1 x0 (ByteArray.mk #[32])) 2) 1 0, ()))))
def g5_1 (x0 : ByteArray) : Bool := (if (!g9_1 (g8_0 x0 (ByteArray.mk #[32]))) = true then Bool.false else (if (!g10_1 (g8_1 x0 (ByteArray.mk #[32])) 2) = true then Bool.false else (if (!ByteArray.toList (g11_0 (g9_0 (g8_0 x0 (ByteArray.mk #[32])), List.getD (g10_0 (g8_1 x0 (ByteArray.mk #[32])) 2) 0 0, List.getD (g10_0 (g8_1 x0 (ByteArray.mk #[32])) 2) 1 0, ())) == ByteArray.toList x0) = true then Bool.false else Bool.true)))
theorem p5_0 (x0 : ByteArray) : runF tab ext5 false 49 [] 2000 [] tys5 Tryz.f5.results [true, true] [.code b5] (entE 0 0 sig5 (x0, ())) (entL sig5 (x0, ())) = some ([Dyn.mk (Ty.cons (Ty.int IntKind.i64) (Ty.cons (Ty.int IntKind.i64) (Ty.cons (Ty.int IntKind.i64) Ty.unit))) (0, 0, 0, ()), Dyn.mk Ty.bool Bool.false], [], [P8 x0 (ByteArray.mk #[32]), P9 (g8_0 x0 (ByteArray.mk #[32])), P10 (g8_1 x0 (ByteArray.mk #[32])) 2, (!g9_1 (g8_0 x0 (ByteArray.mk #[32]))) = Bool.true, Bool.true = Bool.true]) := by kernel_rfl
theorem p5_1 (x0 : ByteArray) : runF tab ext5 false 49 [] 2000 [] tys5 Tryz.f5.results [false, true] [.code b5] (entE 0 0 sig5 (x0, ())) (entL sig5 (x0, ())) = some ([Dyn.mk (Ty.cons (Ty.int IntKind.i64) (Ty.cons (Ty.int IntKind.i64) (Ty.cons (Ty.int IntKind.i64) Ty.unit))) (0, 0, 0, ()), Dyn.mk Ty.bool Bool.false], [], [P8 x0 (ByteArray.mk #[32]), P9 (g8_0 x0 (ByteArray.mk #[32])), P10 (g8_1 x0 (ByteArray.mk #[32])) 2, (!g9_1 (g8_0 x0 (ByteArray.mk #[32]))) = Bool.false, (!g10_1 (g8_1 x0 (ByteArray.mk #[32])) 2) = Bool.true]) := by kernel_rfl
theorem p5_2 (x0 : ByteArray) : runF tab ext5 false 49 [] 2000 [] tys5 Tryz.f5.results [false, false, true] [.code b5] (entE 0 0 sig5 (x0, ())) (entL sig5 (x0, ())) = some ([Dyn.mk (Ty.cons (Ty.int IntKind.i64) (Ty.cons (Ty.int IntKind.i64) (Ty.cons (Ty.int IntKind.i64) Ty.unit))) (0, 0, 0, ()), Dyn.mk Ty.bool Bool.false], [], [P8 x0 (ByteArray.mk #[32]), P9 (g8_0 x0 (ByteArray.mk #[32])), P10 (g8_1 x0 (ByteArray.mk #[32])) 2, (!g9_1 (g8_0 x0 (ByteArray.mk #[32]))) = Bool.false, (!g10_1 (g8_1 x0 (ByteArray.mk #[32])) 2) = Bool.false, (0 : Int) ≤ (0 : Int), 0 < (↑(List.length (g10_0 (g8_1 x0 (ByteArray.mk #[32])) 2)) : Int), (0 : Int) ≤ (1 : Int), 1 < (↑(List.length (g10_0 (g8_1 x0 (ByteArray.mk #[32])) 2)) : Int), P11 (g9_0 (g8_0 x0 (ByteArray.mk #[32])), List.getD (g10_0 (g8_1 x0 (ByteArray.mk #[32])) 2) 0 0, List.getD (g10_0 (g8_1 x0 (ByteArray.mk #[32])) 2) 1 0, ()), (!ByteArray.toList (g11_0 (g9_0 (g8_0 x0 (ByteArray.mk #[32])), List.getD (g10_0 (g8_1 x0 (ByteArray.mk #[32])) 2) 0 0, List.getD (g10_0 (g8_1 x0 (ByteArray.mk #[32])) 2) 1 0, ())) == ByteArray.toList x0) = Bool.true]) := by kernel_rfl
theorem p5_3 (x0 : ByteArray) : runF tab ext5 false 49 [] 2000 [] tys5 Tryz.f5.results [false, false, false] [.code b5] (entE 0 0 sig5 (x0, ())) (entL sig5 (x0, ())) = some ([Dyn.mk (Ty.cons (Ty.int IntKind.i64) (Ty.cons (Ty.int IntKind.i64) (Ty.cons (Ty.int IntKind.i64) Ty.unit))) (g9_0 (g8_0 x0 (ByteArray.mk #[32])), List.getD (g10_0 (g8_1 x0 (ByteArray.mk #[32])) 2) 0 0, List.getD (g10_0 (g8_1 x0 (ByteArray.mk #[32])) 2) 1 0, ()), Dyn.mk Ty.bool Bool.true], [], [P8 x0 (ByteArray.mk #[32]), P9 (g8_0 x0 (ByteArray.mk #[32])), P10 (g8_1 x0 (ByteArray.mk #[32])) 2, (!g9_1 (g8_0 x0 (ByteArray.mk #[32]))) = Bool.false, (!g10_1 (g8_1 x0 (ByteArray.mk #[32])) 2) = Bool.false, (0 : Int) ≤ (0 : Int), 0 < (↑(List.length (g10_0 (g8_1 x0 (ByteArray.mk #[32])) 2)) : Int), (0 : Int) ≤ (1 : Int), 1 < (↑(List.length (g10_0 (g8_1 x0 (ByteArray.mk #[32])) 2)) : Int), P11 (g9_0 (g8_0 x0 (ByteArray.mk #[32])), List.getD (g10_0 (g8_1 x0 (ByteArray.mk #[32])) 2) 0 0, List.getD (g10_0 (g8_1 x0 (ByteArray.mk #[32])) 2) 1 0, ()), (!ByteArray.toList (g11_0 (g9_0 (g8_0 x0 (ByteArray.mk #[32])), List.getD (g10_0 (g8_1 x0 (ByteArray.mk #[32])) 2) 0 0, List.getD (g10_0 (g8_1 x0 (ByteArray.mk #[32])) 2) 1 0, ())) == ByteArray.toList x0) = Bool.false]) := by kernel_rfl
theorem at5 (x0 : ByteArray) (h : P5 x0) (w0 : World) (O : List Nat) (q : Nat → Value) : AtV Tryz.prog 5 (PostR [⟨Ty.cons (Ty.int IntKind.i64) (Ty.cons (Ty.int IntKind.i64) (Ty.cons (Ty.int IntKind.i64) Ty.unit)), g5_0 x0⟩, ⟨Ty.bool, g5_1 x0⟩] [] [] q w0 O) 49 w0 O q [] [.code b5] (entE 0 0 sig5 (x0, ())) (entL sig5 (x0, ())) := by
  unfold P5 at h
  unfold g5_0 g5_1
  obtain ⟨s0, h⟩ := h
  obtain ⟨s1, h⟩ := h
  obtain ⟨s2, h⟩ := h
  by_cases b0 : (!g9_1 (g8_0 x0 (ByteArray.mk #[32]))) = true
  · try simp only [if_pos b0] at h ⊢
    exact AtV.fin Tryz.func5 tabOk ext5Ok mixed (p5_0 x0) ⟨s0, s1, s2, b0, rfl, trivial⟩
  · try simp only [if_neg b0] at h ⊢
    replace b0 := Bool.eq_false_iff.2 b0
    by_cases b1 : (!g10_1 (g8_1 x0 (ByteArray.mk #[32])) 2) = true
    · try simp only [if_pos b1] at h ⊢
      exact AtV.fin Tryz.func5 tabOk ext5Ok mixed (p5_1 x0) ⟨s0, s1, s2, b0, b1, trivial⟩
    · try simp only [if_neg b1] at h ⊢
      replace b1 := Bool.eq_false_iff.2 b1
      obtain ⟨s3, h⟩ := h
      obtain ⟨s4, h⟩ := h
      obtain ⟨s5, h⟩ := h
      by_cases b2 : (!ByteArray.toList (g11_0 (g9_0 (g8_0 x0 (ByteArray.mk #[32])), List.getD (g10_0 (g8_1 x0 (ByteArray.mk #[32])) 2) 0 0, List.getD (g10_0 (g8_1 x0 (ByteArray.mk #[32])) 2) 1 0, ())) == ByteArray.toList x0) = true
      · try simp only [if_pos b2] at h ⊢
        exact AtV.fin Tryz.func5 tabOk ext5Ok mixed (p5_2 x0) ⟨s0, s1, s2, b0, b1, (by decide), s3, (by decide), s4, s5, b2, trivial⟩
      · try simp only [if_neg b2] at h ⊢
        replace b2 := Bool.eq_false_iff.2 b2
        exact AtV.fin Tryz.func5 tabOk ext5Ok mixed (p5_3 x0) ⟨s0, s1, s2, b0, b1, (by decide), s3, (by decide), s4, s5, b2, trivial⟩

def S5 : Am.Spec := { sig := sig5, pre := fun ⟨x0, _⟩ => P5 x0, res := fun ⟨x0, _⟩ => [⟨Ty.cons (Ty.int IntKind.i64) (Ty.cons (Ty.int IntKind.i64) (Ty.cons (Ty.int IntKind.i64) Ty.unit)), g5_0 x0⟩, ⟨Ty.bool, g5_1 x0⟩] }
theorem con5 : Contract Tryz.prog 5 S5 := contract_of Tryz.func5 hb5 (Nat.le_of_ble_eq_true (by kernel_rfl)) (fun ⟨x0, _⟩ h _ w0 O q => at5 x0 h w0 O q)


end Go.Proofs.YthjgopkjdnhliaaGreatDoor

/- Function 6 (laws.eqTest): its runs between cut points. Written by a program of this repo (gen). -/
set_option linter.unusedVariables false
set_option linter.unusedSimpArgs false
set_option maxRecDepth 100000
namespace Go.Proofs.YthjgopkjdnhliaaGreatDoor
open Go Go.Am Go.Proofs
def ext6 : Ext := []
theorem ext6Ok : ExtOk Tryz.prog ext6 := trivial
/-! Function 6. -/
noncomputable def b6 : Code := bodyOf Tryz.f6
theorem hb6 : Tryz.f6.body = some b6 := by kernel_rfl
def sig6 : List AT := [AT.v (Ty.cons (Ty.int IntKind.i64) (Ty.cons (Ty.int IntKind.i64) (Ty.cons (Ty.int IntKind.i64) Ty.unit))), AT.v (Ty.cons (Ty.int IntKind.i64) (Ty.cons (Ty.int IntKind.i64) (Ty.cons (Ty.int IntKind.i64) Ty.unit)))]
def tys6 : List Ty := [Ty.bool]
def P6 (x0 : Int × Int × Int × Unit) (x1 : Int × Int × Int × Unit) : Prop := True
def g6_0 (x0 : Int × Int × Int × Unit) (x1 : Int × Int × Int × Unit) : Bool := (if (Prod.fst x0 != Prod.fst x1) = true then Bool.false else (if (Prod.fst (Prod.snd x0) != Prod.fst (Prod.snd x1)) = true then Bool.false else (if (Prod.fst (Prod.snd (Prod.snd x0)) != Prod.fst (Prod.snd (Prod.snd x1))) = true then Bool.false else Bool.true)))
theorem p6_0 (x0 : Int × Int × Int × Unit) (x1 : Int × Int × Int × Unit) : runF tab ext6 false 20 [] 2000 [] tys6 Tryz.f6.results [true] [.code b6] (entE 0 0 sig6 (x0, x1, ())) (entL sig6 (x0, x1, ())) = some ([Dyn.mk Ty.bool Bool.false], [], [(Prod.fst x0 != Prod.fst x1) = Bool.true]) := by kernel_rfl
theorem p6_1 (x0 : Int × Int × Int × Unit) (x1 : Int × Int × Int × Unit) : runF tab ext6 false 20 [] 2000 [] tys6 Tryz.f6.results [false, true] [.code b6] (entE 0 0 sig6 (x0, x1, ())) (entL sig6 (x0, x1, ())) = some ([Dyn.mk Ty.bool Bool.false], [], [(Prod.fst x0 != Prod.fst x1) = Bool.false, (Prod.fst (Prod.snd x0) != Prod.fst (Prod.snd x1)) = Bool.true]) := by kernel_rfl
theorem p6_2 (x0 : Int × Int × Int × Unit) (x1 : Int × Int × Int × Unit) : runF tab ext6 false 20 [] 2000 [] tys6 Tryz.f6.results [false, false, true] [.code b6] (entE 0 0 sig6 (x0, x1, ())) (entL sig6 (x0, x1, ())) = some ([Dyn.mk Ty.bool Bool.false], [], [(Prod.fst x0 != Prod.fst x1) = Bool.false, (Prod.fst (Prod.snd x0) != Prod.fst (Prod.snd x1)) = Bool.false, (Prod.fst (Prod.snd (Prod.snd x0)) != Prod.fst (Prod.snd (Prod.snd x1))) = Bool.true]) := by kernel_rfl
theorem p6_3 (x0 : Int × Int × Int × Unit) (x1 : Int × Int × Int × Unit) : runF tab ext6 false 20 [] 2000 [] tys6 Tryz.f6.results [false, false, false] [.code b6] (entE 0 0 sig6 (x0, x1, ())) (entL sig6 (x0, x1, ())) = some ([Dyn.mk Ty.bool Bool.true], [], [(Prod.fst x0 != Prod.fst x1) = Bool.false, (Prod.fst (Prod.snd x0) != Prod.fst (Prod.snd x1)) = Bool.false, (Prod.fst (Prod.snd (Prod.snd x0)) != Prod.fst (Prod.snd (Prod.snd x1))) = Bool.false]) := by kernel_rfl
theorem at6 (x0 : Int × Int × Int × Unit) (x1 : Int × Int × Int × Unit) (h : P6 x0 x1) (w0 : World) (O : List Nat) (q : Nat → Value) : AtV Tryz.prog 6 (PostR [⟨Ty.bool, g6_0 x0 x1⟩] [] [] q w0 O) 20 w0 O q [] [.code b6] (entE 0 0 sig6 (x0, x1, ())) (entL sig6 (x0, x1, ())) := by
  unfold P6 at h
  unfold g6_0
  by_cases b0 : (Prod.fst x0 != Prod.fst x1) = true
  · try simp only [if_pos b0] at h ⊢
    exact AtV.fin Tryz.func6 tabOk ext6Ok mixed (p6_0 x0 x1) ⟨b0, trivial⟩
  · try simp only [if_neg b0] at h ⊢
    replace b0 := Bool.eq_false_iff.2 b0
    by_cases b1 : (Prod.fst (Prod.snd x0) != Prod.fst (Prod.snd x1)) = true
    · try simp only [if_pos b1] at h ⊢
      exact AtV.fin Tryz.func6 tabOk ext6Ok mixed (p6_1 x0 x1) ⟨b0, b1, trivial⟩
    · try simp only [if_neg b1] at h ⊢
      replace b1 := Bool.eq_false_iff.2 b1
      by_cases b2 : (Prod.fst (Prod.snd (Prod.snd x0)) != Prod.fst (Prod.snd (Prod.snd x1))) = true
      · try simp only [if_pos b2] at h ⊢
        exact AtV.fin Tryz.func6 tabOk ext6Ok mixed (p6_2 x0 x1) ⟨b0, b1, b2, trivial⟩
      · try simp only [if_neg b2] at h ⊢
        replace b2 := Bool.eq_false_iff.2 b2
        exact AtV.fin Tryz.func6 tabOk ext6Ok mixed (p6_3 x0 x1) ⟨b0, b1, b2, trivial⟩

def S6 : Am.Spec := { sig := sig6, pre := fun ⟨x0, x1, _⟩ => P6 x0 x1, res := fun ⟨x0, x1, _⟩ => [⟨Ty.bool, g6_0 x0 x1⟩] }
theorem con6 : Contract Tryz.prog 6 S6 := contract_of Tryz.func6 hb6 (Nat.le_of_ble_eq_true (by kernel_rfl)) (fun ⟨x0, x1, _⟩ h _ w0 O q => at6 x0 x1 h w0 O q)


theorem eqd6 (x y : (Int × Int × Int × Unit)) : g6_0 x y = true ↔ x = y := by
  obtain ⟨a, b, c, u⟩ := x
  obtain ⟨a', b', c', u'⟩ := y
  unfold g6_0
  simp only [Bool.not_eq_true', bytes_ne, bne_iff_ne, ne_eq, ite_not]
  by_cases h0 : a = a'
  · by_cases h1 : b = b'
    · by_cases h2 : c = c'
      · simp [h0, h1, h2]
      · simp [h0, h1, h2]
    · simp [h0, h1]
  · simp [h0]

end Go.Proofs.YthjgopkjdnhliaaGreatDoor

/- Function 3 (laws.FnExactReadTest): its runs between cut points. Written by a program of this repo (gen). -/
set_option linter.unusedVariables false
set_option linter.unusedSimpArgs false
set_option maxRecDepth 100000
namespace Go.Proofs.YthjgopkjdnhliaaGreatDoor
open Go Go.Am Go.Proofs
def ext3 : Ext := [(4, S4), (5, S5), (6, S6)]
theorem call3_4 : Callable Tryz.prog 4 := ⟨Tryz.f4, Tryz.func4, by kernel_rfl, by kernel_rfl⟩
theorem call3_5 : Callable Tryz.prog 5 := ⟨Tryz.f5, Tryz.func5, by kernel_rfl, by kernel_rfl⟩
theorem call3_6 : Callable Tryz.prog 6 := ⟨Tryz.f6, Tryz.func6, by kernel_rfl, by kernel_rfl⟩
theorem ext3Ok : ExtOk Tryz.prog ext3 := ⟨⟨call3_4, con4⟩, ⟨call3_5, con5⟩, ⟨call3_6, con6⟩, trivial⟩
/-! Function 3. -/
noncomputable def b3 : Code := bodyOf Tryz.f3
theorem hb3 : Tryz.f3.body = some b3 := by kernel_rfl
def sig3 : List AT := [AT.v (Ty.str)]
def tys3 : List Ty := [Ty.bool]
def P3 (x0 : ByteArray) : Prop := (if (Decidable.decide ((↑(ByteArray.size x0) : Int) > 1048576)) = true then True else ((P4 x0) ∧ ((P5 x0) ∧ True)))
def g3_0 (x0 : ByteArray) : Bool := (if (Decidable.decide ((↑(ByteArray.size x0) : Int) > 1048576)) = true then Bool.true else (if (!g6_0 (g5_0 x0) (g4_0 x0)) = true then Bool.false else (if (!g5_1 x0 == g4_1 x0) = true then Bool.false else Bool.true)))
theorem p3_0 (x0 : ByteArray) : runF tab ext3 false 29 [] 2000 [] tys3 Tryz.f3.results [true] [.code b3] (entE 0 0 sig3 (x0, ())) (entL sig3 (x0, ())) = some ([Dyn.mk Ty.bool Bool.true], [], [Decidable.decide ((↑(ByteArray.size x0) : Int) > 1048576) = Bool.true]) := by kernel_rfl
theorem p3_1 (x0 : ByteArray) : runF tab ext3 false 29 [] 2000 [] tys3 Tryz.f3.results [false, true, true] [.code b3] (entE 0 0 sig3 (x0, ())) (entL sig3 (x0, ())) = some ([Dyn.mk Ty.bool Bool.false], [], [Decidable.decide ((↑(ByteArray.size x0) : Int) > 1048576) = Bool.false, P4 x0, P5 x0, True, (!g6_0 (g5_0 x0) (g4_0 x0)) = Bool.true, Bool.true = Bool.true]) := by kernel_rfl
theorem p3_2 (x0 : ByteArray) : runF tab ext3 false 29 [] 2000 [] tys3 Tryz.f3.results [false, false, true] [.code b3] (entE 0 0 sig3 (x0, ())) (entL sig3 (x0, ())) = some ([Dyn.mk Ty.bool Bool.false], [], [Decidable.decide ((↑(ByteArray.size x0) : Int) > 1048576) = Bool.false, P4 x0, P5 x0, True, (!g6_0 (g5_0 x0) (g4_0 x0)) = Bool.false, (!g5_1 x0 == g4_1 x0) = Bool.true]) := by kernel_rfl
theorem p3_3 (x0 : ByteArray) : runF tab ext3 false 29 [] 2000 [] tys3 Tryz.f3.results [false, false, false] [.code b3] (entE 0 0 sig3 (x0, ())) (entL sig3 (x0, ())) = some ([Dyn.mk Ty.bool Bool.true], [], [Decidable.decide ((↑(ByteArray.size x0) : Int) > 1048576) = Bool.false, P4 x0, P5 x0, True, (!g6_0 (g5_0 x0) (g4_0 x0)) = Bool.false, (!g5_1 x0 == g4_1 x0) = Bool.false]) := by kernel_rfl
theorem at3 (x0 : ByteArray) (h : P3 x0) (w0 : World) (O : List Nat) (q : Nat → Value) : AtV Tryz.prog 3 (PostR [⟨Ty.bool, g3_0 x0⟩] [] [] q w0 O) 29 w0 O q [] [.code b3] (entE 0 0 sig3 (x0, ())) (entL sig3 (x0, ())) := by
  unfold P3 at h
  unfold g3_0
  by_cases b0 : (Decidable.decide ((↑(ByteArray.size x0) : Int) > 1048576)) = true
  · try simp only [if_pos b0] at h ⊢
    exact AtV.fin Tryz.func3 tabOk ext3Ok mixed (p3_0 x0) ⟨b0, trivial⟩
  · try simp only [if_neg b0] at h ⊢
    replace b0 := Bool.eq_false_iff.2 b0
    obtain ⟨s0, h⟩ := h
    obtain ⟨s1, h⟩ := h
    by_cases b1 : (!g6_0 (g5_0 x0) (g4_0 x0)) = true
    · try simp only [if_pos b1] at h ⊢
      exact AtV.fin Tryz.func3 tabOk ext3Ok mixed (p3_1 x0) ⟨b0, s0, s1, trivial, b1, rfl, trivial⟩
    · try simp only [if_neg b1] at h ⊢
      replace b1 := Bool.eq_false_iff.2 b1
      by_cases b2 : (!g5_1 x0 == g4_1 x0) = true
      · try simp only [if_pos b2] at h ⊢
        exact AtV.fin Tryz.func3 tabOk ext3Ok mixed (p3_2 x0) ⟨b0, s0, s1, trivial, b1, b2, trivial⟩
      · try simp only [if_neg b2] at h ⊢
        replace b2 := Bool.eq_false_iff.2 b2
        exact AtV.fin Tryz.func3 tabOk ext3Ok mixed (p3_3 x0) ⟨b0, s0, s1, trivial, b1, b2, trivial⟩

def S3 : Am.Spec := { sig := sig3, pre := fun ⟨x0, _⟩ => P3 x0, res := fun ⟨x0, _⟩ => [⟨Ty.bool, g3_0 x0⟩] }
theorem con3 : Contract Tryz.prog 3 S3 := contract_of Tryz.func3 hb3 (Nat.le_of_ble_eq_true (by kernel_rfl)) (fun ⟨x0, _⟩ h _ w0 O q => at3 x0 h w0 O q)


end Go.Proofs.YthjgopkjdnhliaaGreatDoor

/- A law that says how functions of the program and of the specification hang together. -/
set_option linter.unusedVariables false
set_option linter.unusedSimpArgs false
set_option maxRecDepth 100000
namespace Go.Proofs.YthjgopkjdnhliaaGreatDoor
open Go Go.Am Go.Proofs

theorem len_eq {y m : Int} (hm : 1 ≤ m ∧ m ≤ 12) : g46_0 y m = g33_0 y m := by
  have hm : m = 1 ∨ m = 2 ∨ m = 3 ∨ m = 4 ∨ m = 5 ∨ m = 6 ∨ m = 7 ∨ m = 8 ∨ m = 9 ∨ m = 10 ∨ m = 11 ∨ m = 12 := by omega
  unfold g46_0 g33_0
  rcases hm with rfl | rfl | rfl | rfl | rfl | rfl | rfl | rfl | rfl | rfl | rfl | rfl <;> rfl

theorem ms_eq (y : Int) : ∀ k, k ≤ 12 → ms25 y k = ms34 y k
  | 0, _ => rfl
  | k + 1, h => by
    simp only [ms25, ms34]
    rw [ms_eq y k (by omega), len_eq (m := (k : Int) + 1) (by omega)]

theorem yd_eq : ∀ k : Nat, yd25 k = 365 * (k : Int) + ((k : Int) + 3) / 4
  | 0 => rfl
  | k + 1 => by
    have et : Int.tmod (2000 + (k : Int)) 4 = (2000 + (k : Int)) % 4 := Int.tmod_eq_emod_of_nonneg (by omega)
    simp only [yd25]
    rw [yd_eq k, et]
    by_cases hz : (2000 + (k : Int)) % 4 = 0
    · rw [if_pos (by simpa using hz)]; omega
    · rw [if_neg (by simpa using hz)]; omega

/-- A date that there is. -/
def Dat (y m d : Int) : Prop := (2000 ≤ y ∧ y ≤ 2099) ∧ (1 ≤ m ∧ m ≤ 12) ∧ (1 ≤ d ∧ d ≤ g33_0 y m)

def bas (y : Int) : Int := (y - 2000) * 365 + (y - 1997) / 4

theorem day_at {y m d : Int} (hy : 2000 ≤ y) : g34_0 y m d = bas y + ms34 y (m - 1).toNat + d - 1 := by
  have e : Int.tdiv (y - 1997) 4 = (y - 1997) / 4 := Int.tdiv_eq_ediv_of_nonneg (by omega)
  unfold g34_0 bs34 bas
  rw [e]; omega

theorem num_eq {y m d : Int} (h : Dat y m d) : g25_0 y m d = g34_0 y m d ∧ g25_1 y m d = true := by
  obtain ⟨h0, h1, h2⟩ := h
  have ok : ok25 y m d = true := by
    unfold ok25
    rw [in25.2 h0, in25.2 h1, len_eq h1, in25.2 h2]
    rfl
  refine ⟨?_, ok⟩
  unfold g25_0
  rw [if_pos ok, day_at h0.1, yd_eq, ms_eq y _ (by omega)]
  unfold bas
  omega

theorem dat_of {y m d : Int} (h : g25_1 y m d = true) : Dat y m d := by
  unfold g25_1 ok25 at h
  simp only [Bool.and_eq_true] at h
  have h1 := in25.1 h.2.1
  refine ⟨in25.1 h.1, h1, ?_⟩
  have := in25.1 h.2.2
  rwa [len_eq h1] at this

theorem win {x a b : Int} : g32_0 x a b = true ↔ a ≤ x ∧ x ≤ b := by
  unfold g32_0
  by_cases c1 : x ≥ a
  · by_cases c2 : x ≤ b
    · simp [c1, c2]
    · simp [c1, c2]
  · have : ¬ a ≤ x := c1
    simp [c1, this]

theorem inum {y m d : Int} (h : Dat y m d) : g18_0 y m d = g34_0 y m d ∧ g18_1 y m d = 0 := by
  obtain ⟨h0, h1, h2⟩ := h
  unfold g18_0 g18_1
  rw [win.2 h0, win.2 h1, win.2 h2]
  exact ⟨rfl, rfl⟩

theorem idat {y m d : Int} (h : g18_1 y m d = 0) : Dat y m d := by
  unfold g18_1 at h
  cases h0 : g32_0 y 2000 2099 with
  | false => rw [h0] at h; simp at h
  | true =>
    cases h1 : g32_0 m 1 12 with
    | false => rw [h0, h1] at h; simp at h
    | true =>
      cases h2 : g32_0 d 1 (g33_0 y m) with
      | false => rw [h0, h1, h2] at h; simp at h
      | true => exact ⟨win.1 h0, win.1 h1, win.1 h2⟩

theorem ms_mono {y : Int} (hy : 2000 ≤ y ∧ y ≤ 2099) (i : Nat) : ∀ j, ms34 y i ≤ ms34 y (i + j)
  | 0 => Int.le_refl _
  | j + 1 => by
    have := ms_mono hy i j
    have := (len34 hy (m := ((i + j : Nat) : Int) + 1)).2.1
    rw [← Nat.add_assoc]
    simp only [ms34]
    omega

theorem ms_year {y : Int} (hy : 2000 ≤ y ∧ y ≤ 2099) : bas y + ms34 y 12 = bas (y + 1) := by
  have et : Int.tmod y 4 = y % 4 := Int.tmod_eq_emod_of_nonneg (by omega)
  have e : ms34 y 12 = if y % 4 = 0 then 366 else 365 := by
    by_cases hz : y % 4 = 0 <;> simp [ms34, g33_0, et, hz]
  rw [e]
  unfold bas
  split <;> omega

theorem year_back {y day : Int} (hy : 2000 ≤ y ∧ y ≤ 2099) (h1 : bas y ≤ day) (h2 : day < bas (y + 1)) : ∀ (k : Nat) (z : Int), z + k = 2099 → 2000 ≤ z → z ≤ y → yr36 day k z = y := by
  have e1 : ∀ z : Int, 2000 ≤ z → g34_0 z 1 1 = bas z := fun z hz => by
    rw [day_at hz]
    show bas z + 0 + 1 - 1 = bas z
    omega
  intro k
  induction k with
  | zero => intro z hz _ hle; show z = y; omega
  | succ k ih =>
    intro z hz h0 hle
    unfold yr36
    rw [e1 (z + 1) (by omega)]
    by_cases hlt : z < y
    · rw [if_pos (by have : bas (z + 1) ≤ bas y := by unfold bas; omega
                     omega)]
      exact ih (z + 1) (by omega) (by omega) (by omega)
    · have : z = y := by omega
      subst this
      rw [if_neg (by omega)]

theorem month_back {y m day : Int} (hy : 2000 ≤ y ∧ y ≤ 2099) (hm : 1 ≤ m ∧ m ≤ 12) (h1 : bas y + ms34 y (m - 1).toNat ≤ day) (h2 : day < bas y + ms34 y m.toNat) : ∀ (k : Nat) (z : Int), z + k = 12 → 1 ≤ z → z ≤ m → mo36 day y k z = m := by
  intro k
  induction k with
  | zero => intro z hz _ hle; show z = m; omega
  | succ k ih =>
    intro z hz h0 hle
    unfold mo36
    rw [day_at hy.1, show z + 1 - 1 = z by omega]
    by_cases hlt : z < m
    · rw [if_pos (by
        have := ms_mono hy z.toNat ((m - 1).toNat - z.toNat)
        rw [show z.toNat + ((m - 1).toNat - z.toNat) = (m - 1).toNat by omega] at this
        omega)]
      exact ih (z + 1) (by omega) (by omega) (by omega)
    · have : z = m := by omega
      subst this
      rw [if_neg (by omega)]

theorem date_back {y m d : Int} (h : Dat y m d) : (0 ≤ g34_0 y m d ∧ g34_0 y m d ≤ 36524) ∧ g36_0 (g34_0 y m d) = y ∧ g36_1 (g34_0 y m d) = m ∧ g36_2 (g34_0 y m d) = d := by
  obtain ⟨h0, h1, h2⟩ := h
  have ed := day_at (m := m) (d := d) h0.1
  have hb := msb34 h0 (m - 1).toNat
  have hms : ms34 y m.toNat = ms34 y (m - 1).toNat + g33_0 y m := by
    obtain ⟨k, hk⟩ : ∃ k : Nat, m = (k : Int) + 1 := ⟨(m - 1).toNat, by omega⟩
    subst hk
    rw [show ((k : Int) + 1).toNat = k + 1 by omega, show ((k : Int) + 1 - 1).toNat = k by omega]
    rfl
  have hy12 := ms_year h0
  have hmono := ms_mono h0 m.toNat (12 - m.toNat)
  rw [show m.toNat + (12 - m.toNat) = 12 by omega] at hmono
  have hbas : 0 ≤ bas y ∧ bas (y + 1) ≤ 36525 := by unfold bas; omega
  have a0 : g36_0 (g34_0 y m d) = y := year_back h0 (by omega) (by omega) 99 2000 (by omega) (by omega) (by omega)
  have a1 : g36_1 (g34_0 y m d) = m := by
    unfold g36_1
    rw [a0]
    exact month_back h0 h1 (by omega) (by omega) 11 1 (by omega) (by omega) (by omega)
  refine ⟨by omega, a0, a1, ?_⟩
  unfold g36_2
  rw [a0, a1, day_at (m := m) (d := 1) h0.1]
  omega

end Go.Proofs.YthjgopkjdnhliaaGreatDoor

/- A law that says how functions of the program and of the specification hang together. -/
set_option linter.unusedVariables false
set_option linter.unusedSimpArgs false
set_option maxRecDepth 100000
namespace Go.Proofs.YthjgopkjdnhliaaGreatDoor
open Go Go.Am Go.Proofs

/-- The sign of a digit. -/
def D10 (a : Nat) : UInt8 := UInt8.ofNat (48 + a)
theorem D10_nat {a : Nat} (h : a < 10) : (D10 a).toNat = 48 + a := by unfold D10; rw [UInt8.toNat_ofNat']; omega
theorem D10_of {b : UInt8} (h : 48 ≤ b.toNat ∧ b.toNat ≤ 57) : b = D10 (b.toNat - 48) := by
  rw [← UInt8.toNat_inj, D10_nat (by omega)]; omega
theorem D10_inj {a b : Nat} (ha : a < 10) (hb : b < 10) (h : D10 a = D10 b) : a = b := by
  have := congrArg UInt8.toNat h
  rw [D10_nat ha, D10_nat hb] at this
  omega

theorem num_one {n : Nat} (h : n < 10) : numB (n : Int) = ⟨⟨[D10 n]⟩⟩ := by
  unfold numB Lib.itoa
  rw [if_neg (by omega), Int.toNat_natCast, Lib.decDigits_one h]
  rfl
theorem num_two {n : Nat} (h1 : 10 ≤ n) (h : n < 100) : numB (n : Int) = ⟨⟨[D10 (n / 10), D10 (n % 10)]⟩⟩ := by
  unfold numB Lib.itoa
  rw [if_neg (by omega), Int.toNat_natCast, Lib.decDigits_two (by omega) h]
  rfl

theorem pad_two {n : Nat} (h : n < 100) : P38 (n : Int) 2 ∧ g38_0 (n : Int) 2 = ⟨⟨[D10 (n / 10), D10 (n % 10)]⟩⟩ := by
  unfold P38 g38_0
  have e : g37_0 (n : Int) = numB (n : Int) := rfl
  rw [e]
  by_cases h1 : n < 10
  · rw [num_one h1]
    have e0 : n / 10 = 0 := by omega
    have e1 : n % 10 = n := by omega
    rw [e0, e1]
    have e2 : (ByteArray.mk (Array.mk [D10 n])).size = 1 := rfl
    rw [e2]
    exact ⟨⟨⟨rfl, trivial⟩, by rw [i64_iff]; decide, ⟨by decide, by decide⟩, by show 1 + 1 ≤ _; decide, trivial⟩, rfl⟩
  · rw [num_two (by omega) h]
    have e2 : (ByteArray.mk (Array.mk [D10 (n / 10), D10 (n % 10)])).size = 2 := rfl
    rw [e2]
    exact ⟨⟨⟨rfl, trivial⟩, by rw [i64_iff]; decide, ⟨by decide, by decide⟩, by show 0 + 2 ≤ _; decide, trivial⟩, rfl⟩

theorem num_bound : ∀ (l : List UInt8) (m i : Nat), m < 10 ^ i → i + l.length ≤ 12 → -1 ≤ num19 l (m : Int) ∧ num19 l (m : Int) < 1000000000000
  | [], m, i, h, hi => by
    have hp : 10 ^ i ≤ 10 ^ 12 := Nat.pow_le_pow_right (by decide) (by simp at hi; omega)
    have : m < 1000000000000 := Nat.lt_of_lt_of_le h hp
    show -1 ≤ (m : Int) ∧ (m : Int) < 1000000000000
    omega
  | b :: r, m, i, h, hi => by
    unfold num19
    split
    · rename_i hd
      have hd' : 48 ≤ b.toNat ∧ b.toNat ≤ 57 := by simpa using hd
      have e1 : 10 * (m : Int) + ((b.toNat : Int) - 48) = ((10 * m + (b.toNat - 48) : Nat) : Int) := by omega
      rw [e1]
      exact num_bound r _ (i + 1) (by rw [Nat.pow_succ]; omega) (by simp at hi; omega)
    · omega

theorem number_bound (x : ByteArray) : -1 ≤ g19_0 x ∧ g19_0 x < 1000000000000 := by
  unfold g19_0
  split
  · omega
  · rename_i h
    have : x.data.toList.length = x.size := rfl
    exact num_bound x.data.toList 0 0 (by decide) (by omega)

theorem number_two {a b : Nat} (ha : a < 10) (hb : b < 10) : g19_0 ⟨⟨[D10 a, D10 b]⟩⟩ = ((10 * a + b : Nat) : Int) := by
  unfold g19_0
  rw [if_neg (by show ¬ (2 < 1 ∨ 12 < 2); omega)]
  show num19 [D10 a, D10 b] 0 = _
  simp only [num19, D10_nat ha, D10_nat hb, decide_eq_true_eq, Bool.and_eq_true]
  rw [if_pos (by omega), if_pos (by omega)]
  omega


end Go.Proofs.YthjgopkjdnhliaaGreatDoor

/- A law that says how functions of the program and of the specification hang together. -/
set_option linter.unusedVariables false
set_option linter.unusedSimpArgs false
set_option maxRecDepth 100000
namespace Go.Proofs.YthjgopkjdnhliaaGreatDoor
open Go Go.Am Go.Proofs

/-- A digit. -/
def isD (b : UInt8) : Prop := 48 ≤ b.toNat ∧ b.toNat ≤ 57
/-- The value of digits. -/
def dval : List UInt8 → Nat → Nat
  | [], n => n
  | b :: r, n => dval r (10 * n + (b.toNat - 48))
theorem dval_append : ∀ (l : List UInt8) (b : UInt8) (n : Nat), dval (l ++ [b]) n = 10 * dval l n + (b.toNat - 48)
  | [], _, _ => rfl
  | c :: r, b, n => dval_append r b _
theorem dval_pos : ∀ (l : List UInt8) (n : Nat), 1 ≤ n → 1 ≤ dval l n
  | [], _, h => h
  | b :: r, n, h => dval_pos r _ (by omega)

theorem dsign_nat {a : Nat} (h : a < 10) : (UInt8.ofNat (48 + a)).toNat = 48 + a := by rw [UInt8.toNat_ofNat']; omega

theorem dec_facts (n : Nat) : (∀ b ∈ Lib.decDigits n, isD b) ∧ dval (Lib.decDigits n) 0 = n ∧ 0 < (Lib.decDigits n).length ∧ (1 ≤ n → ((Lib.decDigits n).getD 0 0).toNat ≠ 48) := by
  induction n using Nat.strongRecOn with
  | _ n ih =>
    by_cases h : n < 10
    · rw [Lib.decDigits, dif_pos h]
      have e := dsign_nat h
      refine ⟨fun b hb => ?_, ?_, by simp, fun h1 => ?_⟩
      · rw [List.mem_singleton.1 hb]; unfold isD; omega
      · show 10 * 0 + ((UInt8.ofNat (48 + n)).toNat - 48) = n; omega
      · show (UInt8.ofNat (48 + n)).toNat ≠ 48; omega
    · rw [Lib.decDigits, dif_neg h]
      obtain ⟨i1, i2, i3, i4⟩ := ih (n / 10) (by omega)
      have e := dsign_nat (a := n % 10) (by omega)
      refine ⟨fun b hb => ?_, ?_, by simp, fun h1 => ?_⟩
      · rcases List.mem_append.1 hb with hb | hb
        · exact i1 b hb
        · rw [List.mem_singleton.1 hb]; unfold isD; omega
      · rw [dval_append, i2, e]; omega
      · have i4 := i4 (by omega)
        cases hd : Lib.decDigits (n / 10) with
        | nil => rw [hd] at i3; simp at i3
        | cons c r => rw [hd] at i4; exact i4

theorem dec_canon (n : Nat) : ∀ l : List UInt8, l.length = n → (∀ b ∈ l, isD b) → 0 < l.length → ((l.getD 0 0).toNat ≠ 48 ∨ l.length = 1) → Lib.decDigits (dval l 0) = l := by
  induction n with
  | zero => intro l hl _ h0 _; omega
  | succ n ih =>
    intro l hl hd h0 hc
    rcases List.eq_nil_or_concat l with rfl | ⟨l', b, rfl⟩
    · simp at h0
    · rw [List.concat_eq_append] at *
      have hb : isD b := hd b (by simp)
      unfold isD at hb
      rw [dval_append]
      cases l' with
      | nil =>
        rw [Lib.decDigits, dif_pos (by show 10 * 0 + (b.toNat - 48) < 10; omega)]
        show [UInt8.ofNat (48 + (10 * 0 + (b.toNat - 48)))] = [b]
        congr 1
        rw [← UInt8.toNat_inj, UInt8.toNat_ofNat']; omega
      | cons c r =>
        have hc' : c.toNat ≠ 48 := by
          rcases hc with hc | hc
          · exact hc
          · simp at hc
        have hcd : isD c := hd c (by simp)
        unfold isD at hcd
        have hp : 1 ≤ dval (c :: r) 0 := dval_pos r _ (by omega)
        have hi := ih (c :: r) (by simp at hl ⊢; omega) (fun x hx => hd x (List.mem_append_left _ hx)) (by simp) (.inl hc')
        rw [Lib.decDigits, dif_neg (by omega), show (10 * dval (c :: r) 0 + (b.toNat - 48)) / 10 = dval (c :: r) 0 by omega, hi, show (10 * dval (c :: r) 0 + (b.toNat - 48)) % 10 = b.toNat - 48 by omega]
        congr 2
        rw [← UInt8.toNat_inj, UInt8.toNat_ofNat']; omega

theorem dec_len : ∀ (k n : Nat), n < 10 ^ (k + 1) → (Lib.decDigits n).length ≤ k + 1
  | 0, n, h => by rw [Lib.decDigits, dif_pos (by simpa using h)]; simp
  | k + 1, n, h => by
    rw [Lib.decDigits]
    split
    · simp
    · have := dec_len k (n / 10) (by rw [Nat.pow_succ] at h; omega)
      simp; omega


end Go.Proofs.YthjgopkjdnhliaaGreatDoor

/- A law that says how functions of the program and of the specification hang together. -/
set_option linter.unusedVariables false
set_option linter.unusedSimpArgs false
set_option maxRecDepth 100000
namespace Go.Proofs.YthjgopkjdnhliaaGreatDoor
open Go Go.Am Go.Proofs

theorem number_dec {n : Nat} (h : n < 1000000000000) : g19_0 ⟨⟨Lib.decDigits n⟩⟩ = (n : Int) := by
  have key : ∀ (l : List UInt8) (m : Nat), (∀ b ∈ l, isD b) → num19 l (m : Int) = (dval l m : Nat) := by
    intro l
    induction l with
    | nil => intro m _; rfl
    | cons b r ih =>
      intro m hd
      have hb : isD b := hd b (List.mem_cons_self ..)
      unfold isD at hb
      unfold num19
      rw [if_pos (by simpa using hb)]
      have e1 : 10 * (m : Int) + ((b.toNat : Int) - 48) = ((10 * m + (b.toNat - 48) : Nat) : Int) := by omega
      rw [e1]
      exact ih _ (fun c hc => hd c (List.mem_cons_of_mem _ hc))
  obtain ⟨d1, d2, d3, _⟩ := dec_facts n
  have hl := dec_len 11 n (by omega)
  have hs : (ByteArray.mk ⟨Lib.decDigits n⟩).size = (Lib.decDigits n).length := rfl
  unfold g19_0
  rw [if_neg (by omega)]
  have := key (Lib.decDigits n) 0 d1
  rw [d2] at this
  exact this

end Go.Proofs.YthjgopkjdnhliaaGreatDoor

/- A law that says how functions of the program and of the specification hang together. -/
set_option linter.unusedVariables false
set_option linter.unusedSimpArgs false
set_option maxRecDepth 100000
namespace Go.Proofs.YthjgopkjdnhliaaGreatDoor
open Go Go.Am Go.Proofs

/-- The text of a date. -/
def y4 (y : Nat) : List UInt8 := [50, 48, D10 (y % 100 / 10), D10 (y % 10)]
def dT (y m d : Nat) : ByteArray := ⟨⟨y4 y ++ 45 :: ([D10 (m / 10), D10 (m % 10)] ++ 45 :: [D10 (d / 10), D10 (d % 10)])⟩⟩

theorem dec_y4 {y : Nat} (h : 2000 ≤ y ∧ y ≤ 2099) : Lib.decDigits y = y4 y := by
  have e1 : y / 10 / 10 = 20 := by omega
  have e2 : y / 10 % 10 = y % 100 / 10 := by omega
  rw [Lib.decDigits, dif_neg (by omega), Lib.decDigits, dif_neg (by omega), e1, e2, Lib.decDigits, dif_neg (by decide), Lib.decDigits, dif_pos (by decide)]
  rfl

theorem dec_big {y : Nat} (h : 2000 ≤ y ∧ y ≤ 2099) : g37_0 (y : Int) = ⟨⟨y4 y⟩⟩ := by
  rw [← dec_y4 h]
  show numB _ = _
  unfold numB Lib.itoa
  rw [if_neg (by omega), Int.toNat_natCast]

theorem D10_ne {a : Nat} (h : a < 10) : D10 a ≠ 45 := fun e => by
  have := congrArg UInt8.toNat e
  have e45 : (45 : UInt8).toNat = 45 := rfl
  rw [D10_nat h] at this
  omega

theorem two_free {a b : Nat} (ha : a < 10) (hb : b < 10) : (45 : UInt8) ∉ [D10 a, D10 b] := fun hm => by
  simp only [List.mem_cons, List.mem_nil_iff, or_false] at hm
  rcases hm with e | e
  · exact D10_ne ha e.symm
  · exact D10_ne hb e.symm

theorem y4_free (y : Nat) : (45 : UInt8) ∉ y4 y := fun hm => by
  unfold y4 at hm
  simp only [List.mem_cons, List.mem_nil_iff, or_false] at hm
  rcases hm with e | e | e | e
  · cases e
  · cases e
  · exact D10_ne (by omega) e.symm
  · exact D10_ne (by omega) e.symm

theorem dt_split {y m d : Nat} (hm : m < 100) (hd : d < 100) : g17_0 (dT y m d) (ByteArray.mk #[45]) = [⟨⟨y4 y⟩⟩, ⟨⟨[D10 (m / 10), D10 (m % 10)]⟩⟩, ⟨⟨[D10 (d / 10), D10 (d % 10)]⟩⟩] := by
  have e : g17_0 (dT y m d) (ByteArray.mk #[45]) = bss (splitC 45 (dT y m d).data.toList) := splitB_one 45 (dT y m d)
  rw [e]
  show bss (splitC 45 (y4 y ++ 45 :: ([D10 (m / 10), D10 (m % 10)] ++ 45 :: [D10 (d / 10), D10 (d % 10)]))) = _
  rw [splitC_hit 45 _ (y4_free y), splitC_hit 45 _ (two_free (by omega) (by omega)), splitC_free 45 (two_free (by omega) (by omega))]
  rfl

theorem date_nat {y m d : Int} (h : Dat y m d) : ∃ a b c : Nat, y = (a : Int) ∧ m = (b : Int) ∧ d = (c : Int) ∧ (2000 ≤ a ∧ a ≤ 2099) ∧ (1 ≤ b ∧ b ≤ 12) ∧ (1 ≤ c ∧ c ≤ 31) := by
  obtain ⟨h0, h1, h2⟩ := h
  have := (len34 h0 (m := m)).2.2
  exact ⟨y.toNat, m.toNat, d.toNat, by omega, by omega, by omega, by omega, by omega, by omega⟩

theorem date_text {a b c : Nat} (h : Dat (a : Int) (b : Int) (c : Int)) (ha : 2000 ≤ a ∧ a ≤ 2099) (hb : b ≤ 12) (hc : c ≤ 31) : g20_0 (g34_0 (a : Int) (b : Int) (c : Int)) = dT a b c := by
  obtain ⟨hd, e0, e1, e2⟩ := date_back h
  have hi : g35_0 (g34_0 (a : Int) (b : Int) (c : Int)) = true := win.2 hd
  unfold g20_0
  rw [hi, e0, e1, e2, dec_big ha, (pad_two (n := b) (by omega)).2, (pad_two (n := c) (by omega)).2]
  apply ByteArray.ext
  apply Array.ext'
  simp [ByteArray.data_append, dT]

theorem date_pre (n : Int) : P20 n → True := fun _ => trivial

theorem text_pre {y m d : Int} (h : Dat y m d) : P20 (g34_0 y m d) := by
  obtain ⟨a, b, c, rfl, rfl, rfl, ha, hb, hc⟩ := date_nat h
  obtain ⟨hd, e0, e1, e2⟩ := date_back h
  unfold P20
  rw [e0, e1, e2, dec_big ha]
  obtain ⟨p1, q1⟩ := pad_two (n := b) (by omega)
  obtain ⟨p2, q2⟩ := pad_two (n := c) (by omega)
  rw [q1, q2]
  have s4 : (ByteArray.mk ⟨y4 a⟩).size = 4 := rfl
  have s1 : (ByteArray.mk #[45]).size = 1 := rfl
  have s2 : ∀ u v : UInt8, (ByteArray.mk ⟨[u, v]⟩).size = 2 := fun _ _ => rfl
  by_cases hc : (!g35_0 (g34_0 (a : Int) (b : Int) (c : Int))) = true
  · rw [if_pos hc]; trivial
  · rw [if_neg hc]
    simp only [ByteArray.size_append, s4, s1, s2]
    exact ⟨⟨by omega, by omega⟩, ⟨rfl, trivial⟩, by omega, p1, by omega, by omega, p2, by omega, trivial⟩

theorem number_y4 {y : Nat} (h : 2000 ≤ y ∧ y ≤ 2099) : g19_0 ⟨⟨y4 y⟩⟩ = (y : Int) := by
  rw [← dec_y4 h]
  exact number_dec (by omega)

theorem date_i1 {a b c : Nat} (h : Dat (a : Int) (b : Int) (c : Int)) (ha : 2000 ≤ a ∧ a ≤ 2099) (hb : b ≤ 12) (hc : c ≤ 31) : g9_0 (dT a b c) = g34_0 (a : Int) (b : Int) (c : Int) ∧ g9_1 (dT a b c) = true := by
  have n1 := number_y4 ha
  have n2 : g19_0 ⟨⟨[D10 (b / 10), D10 (b % 10)]⟩⟩ = (b : Int) := by rw [number_two (by omega) (by omega)]; omega
  have n3 : g19_0 ⟨⟨[D10 (c / 10), D10 (c % 10)]⟩⟩ = (c : Int) := by rw [number_two (by omega) (by omega)]; omega
  obtain ⟨i0, i1⟩ := inum h
  unfold g9_0 g9_1
  rw [dt_split (by omega) (by omega)]
  have g0 : List.getD [(⟨⟨y4 a⟩⟩ : ByteArray), ⟨⟨[D10 (b / 10), D10 (b % 10)]⟩⟩, ⟨⟨[D10 (c / 10), D10 (c % 10)]⟩⟩] 0 ByteArray.empty = ⟨⟨y4 a⟩⟩ := rfl
  have g1 : List.getD [(⟨⟨y4 a⟩⟩ : ByteArray), ⟨⟨[D10 (b / 10), D10 (b % 10)]⟩⟩, ⟨⟨[D10 (c / 10), D10 (c % 10)]⟩⟩] 1 ByteArray.empty = ⟨⟨[D10 (b / 10), D10 (b % 10)]⟩⟩ := rfl
  have g2 : List.getD [(⟨⟨y4 a⟩⟩ : ByteArray), ⟨⟨[D10 (b / 10), D10 (b % 10)]⟩⟩, ⟨⟨[D10 (c / 10), D10 (c % 10)]⟩⟩] 2 ByteArray.empty = ⟨⟨[D10 (c / 10), D10 (c % 10)]⟩⟩ := rfl
  have gl : (([(⟨⟨y4 a⟩⟩ : ByteArray), ⟨⟨[D10 (b / 10), D10 (b % 10)]⟩⟩, ⟨⟨[D10 (c / 10), D10 (c % 10)]⟩⟩].length : Nat) : Int) = 3 := rfl
  simp only [g0, g1, g2, gl, n1, n2, n3, i0, i1, date_text h ha hb hc, bne_self_eq_false, beq_self_eq_true, Bool.not_true, Bool.false_eq_true, if_false, and_self]

theorem date_i2 {x : ByteArray} (hx : g9_1 x = true) : ∃ a b c : Nat, Dat (a : Int) (b : Int) (c : Int) ∧ (2000 ≤ a ∧ a ≤ 2099) ∧ (1 ≤ b ∧ b ≤ 12) ∧ (1 ≤ c ∧ c ≤ 31) ∧ x = dT a b c := by
  unfold g9_1 at hx
  generalize g19_0 (List.getD (g17_0 x (ByteArray.mk #[45])) 0 ByteArray.empty) = y at hx
  generalize g19_0 (List.getD (g17_0 x (ByteArray.mk #[45])) 1 ByteArray.empty) = m at hx
  generalize g19_0 (List.getD (g17_0 x (ByteArray.mk #[45])) 2 ByteArray.empty) = d at hx
  split at hx
  · cases hx
  · split at hx
    · cases hx
    · rename_i h1
      split at hx
      · cases hx
      · rename_i h2
        have h : Dat y m d := idat (by simpa using h1)
        obtain ⟨a, b, c, rfl, rfl, rfl, ha, hb, hc⟩ := date_nat h
        have h2' : g20_0 (g18_0 (a : Int) (b : Int) (c : Int)) = x := (bytes_eq _ _).1 (by simpa using h2)
        rw [(inum h).1, date_text h ha (by omega) (by omega)] at h2'
        exact ⟨a, b, c, h, ha, hb, hc, h2'.symm⟩

theorem chI {c : Prop} [Decidable c] {B : Bool} {A : Int} (h : B = false → A = 0) (hx : (if c then false else B) = false) : (if c then 0 else A) = 0 := by
  split at hx
  · rename_i hc; rw [if_pos hc]
  · rename_i hc; rw [if_neg hc]; exact h hx

theorem date_i3 {x : ByteArray} (hx : g9_1 x = false) : g9_0 x = 0 :=
  (chI (chI (chI (fun h => by cases h)))) hx

theorem date_s3 {x : ByteArray} (hx : g13_1 x = false) : g13_0 x = 0 :=
  (chI (chI (chI (chI (chI (chI (fun h => by
    unfold g25_0
    unfold g25_1 at h
    rw [h]; rfl))))))) hx

theorem digs_v : ∀ (l : List UInt8) (m : Nat), (∀ b ∈ l, isD b) → dig24 l (m : Int) = (((dval l m : Nat) : Int), true)
  | [], _, _ => rfl
  | b :: r, m, hd => by
    have hb : isD b := hd b (List.mem_cons_self ..)
    unfold isD at hb
    unfold dig24 d24
    rw [if_pos (by simpa using hb)]
    have e1 : 10 * (m : Int) + ((b.toNat : Int) - 48) = ((10 * m + (b.toNat - 48) : Nat) : Int) := by omega
    rw [e1]
    exact digs_v r _ (fun c hc => hd c (List.mem_cons_of_mem _ hc))

theorem digs_all : ∀ (l : List UInt8) (n : Int), (dig24 l n).2 = true → ∀ b ∈ l, isD b
  | [], n, h, b, hb => by cases hb
  | c :: r, n, h, b, hb => by
    unfold dig24 at h
    split at h
    · rename_i hd
      rcases List.mem_cons.1 hb with rfl | hb
      · unfold d24 at hd; unfold isD; simpa using hd
      · exact digs_all r _ h b hb
    · cases h

theorem dig_two {a b : UInt8} (h : g24_1 ⟨⟨[a, b]⟩⟩ = true) : ∃ n : Nat, n < 100 ∧ g24_0 ⟨⟨[a, b]⟩⟩ = (n : Int) ∧ [a, b] = [D10 (n / 10), D10 (n % 10)] := by
  have hall := digs_all [a, b] 0 h
  have ha : isD a := hall a (by simp)
  have hb : isD b := hall b (by simp)
  have hv := digs_v [a, b] 0 hall
  unfold isD at ha hb
  refine ⟨10 * (a.toNat - 48) + (b.toNat - 48), by omega, ?_, ?_⟩
  · have := congrArg Prod.fst hv
    show (dig24 [a, b] 0).1 = _
    refine Eq.trans this ?_
    show ((dval [a, b] 0 : Nat) : Int) = _
    simp [dval]
  · rw [show (10 * (a.toNat - 48) + (b.toNat - 48)) / 10 = a.toNat - 48 by omega, show (10 * (a.toNat - 48) + (b.toNat - 48)) % 10 = b.toNat - 48 by omega, ← D10_of ha, ← D10_of hb]

theorem two_dig {n : Nat} (h : n < 100) : g24_0 ⟨⟨[D10 (n / 10), D10 (n % 10)]⟩⟩ = (n : Int) ∧ g24_1 ⟨⟨[D10 (n / 10), D10 (n % 10)]⟩⟩ = true := by
  have x1 := D10_nat (a := n / 10) (by omega)
  have x2 := D10_nat (a := n % 10) (by omega)
  have hall : ∀ b ∈ [D10 (n / 10), D10 (n % 10)], isD b := fun b hb => by
    simp only [List.mem_cons, List.mem_nil_iff, or_false] at hb
    unfold isD
    rcases hb with rfl | rfl <;> omega
  have hv := digs_v _ 0 hall
  refine ⟨?_, congrArg Prod.snd hv⟩
  have := congrArg Prod.fst hv
  refine Eq.trans this ?_
  simp only [dval, x1, x2]
  omega

theorem y4_dig {y : Nat} (h : 2000 ≤ y ∧ y ≤ 2099) : g24_0 ⟨⟨y4 y⟩⟩ = (y : Int) ∧ g24_1 ⟨⟨y4 y⟩⟩ = true := by
  obtain ⟨d1, d2, _, _⟩ := dec_facts y
  rw [dec_y4 h] at d1 d2
  have hv := digs_v (y4 y) 0 d1
  rw [d2] at hv
  exact ⟨congrArg Prod.fst hv, congrArg Prod.snd hv⟩

theorem dig_four {l : List UInt8} (hl : l.length = 4) (h : g24_1 ⟨⟨l⟩⟩ = true) (hy : 2000 ≤ g24_0 ⟨⟨l⟩⟩ ∧ g24_0 ⟨⟨l⟩⟩ ≤ 2099) : ∃ n : Nat, (2000 ≤ n ∧ n ≤ 2099) ∧ g24_0 ⟨⟨l⟩⟩ = (n : Int) ∧ l = y4 n := by
  have hall := digs_all l 0 h
  have hv := digs_v l 0 hall
  have e : g24_0 ⟨⟨l⟩⟩ = ((dval l 0 : Nat) : Int) := congrArg Prod.fst hv
  rw [e] at hy
  refine ⟨dval l 0, by omega, e, ?_⟩
  rw [← dec_y4 (by omega)]
  refine (dec_canon l.length l rfl hall (by omega) (.inl ?_)).symm
  match l, hl with
  | [a, b, c, f], _ =>
    intro h0
    have ha := hall a (by simp)
    have hb := hall b (by simp)
    have hc := hall c (by simp)
    have hf := hall f (by simp)
    unfold isD at ha hb hc hf
    have h0' : a.toNat = 48 := h0
    simp only [dval] at hy
    omega

theorem ext_of2 (l : List UInt8) (a b : Nat) : ByteArray.extract ⟨⟨l⟩⟩ a b = ⟨⟨(l.drop a).take (b - a)⟩⟩ := Lib.extract_mk l a b

theorem by45 {b : UInt8} : (((b.toNat : Nat) : Int) != 45) = true ↔ b ≠ 45 := by
  rw [bne_iff_ne]
  constructor
  · intro h e; apply h; rw [e]; rfl
  · intro h e; apply h
    apply UInt8.toNat_inj.1
    show b.toNat = 45
    omega

theorem date_s1 {a b c : Nat} (h : Dat (a : Int) (b : Int) (c : Int)) (ha : 2000 ≤ a ∧ a ≤ 2099) (hb : b ≤ 12) (hc : c ≤ 31) : g13_0 (dT a b c) = g34_0 (a : Int) (b : Int) (c : Int) ∧ g13_1 (dT a b c) = true := by
  obtain ⟨y1, y2⟩ := y4_dig ha
  obtain ⟨m1, m2⟩ := two_dig (n := b) (by omega)
  obtain ⟨d1, d2⟩ := two_dig (n := c) (by omega)
  obtain ⟨n1, n2⟩ := num_eq h
  have es : (((dT a b c).size : Nat) : Int) = 10 := rfl
  have g4 : (((((dT a b c).data.toList).getD 4 0).toNat : Nat) : Int) = 45 := rfl
  have g7 : (((((dT a b c).data.toList).getD 7 0).toNat : Nat) : Int) = 45 := rfl
  have x1 : ByteArray.extract (dT a b c) 0 4 = ⟨⟨y4 a⟩⟩ := ext_of2 _ 0 4
  have x2 : ByteArray.extract (dT a b c) 5 7 = ⟨⟨[D10 (b / 10), D10 (b % 10)]⟩⟩ := ext_of2 _ 5 7
  have x3 : ByteArray.extract (dT a b c) 8 (Int.toNat 10) = ⟨⟨[D10 (c / 10), D10 (c % 10)]⟩⟩ := ext_of2 _ 8 10
  unfold g13_0 g13_1
  simp only [es, g4, g7, x1, x2, x3, y1, y2, m1, m2, d1, d2, n1, n2, bne_self_eq_false, Bool.not_true, Bool.false_eq_true, if_false, and_self]

theorem date_s2 {x : ByteArray} (hx : g13_1 x = true) : ∃ a b c : Nat, Dat (a : Int) (b : Int) (c : Int) ∧ (2000 ≤ a ∧ a ≤ 2099) ∧ (1 ≤ b ∧ b ≤ 12) ∧ (1 ≤ c ∧ c ≤ 31) ∧ x = dT a b c := by
  unfold g13_1 at hx
  split at hx
  · cases hx
  rename_i h0
  have hs : x.size = 10 := by
    have : ((x.size : Nat) : Int) = 10 := by simpa using h0
    omega
  obtain ⟨⟨l⟩⟩ := x
  have hl : l.length = 10 := hs
  match l, hl with
  | [p, q, r, s, t, u, v, w, z, o], _ =>
    have es : (((ByteArray.mk ⟨[p, q, r, s, t, u, v, w, z, o]⟩).size : Nat) : Int) = 10 := rfl
    have x1 : ByteArray.extract ⟨⟨[p, q, r, s, t, u, v, w, z, o]⟩⟩ 0 4 = ⟨⟨[p, q, r, s]⟩⟩ := ext_of2 _ 0 4
    have x2 : ByteArray.extract ⟨⟨[p, q, r, s, t, u, v, w, z, o]⟩⟩ 5 7 = ⟨⟨[u, v]⟩⟩ := ext_of2 _ 5 7
    have x3 : ByteArray.extract ⟨⟨[p, q, r, s, t, u, v, w, z, o]⟩⟩ 8 (Int.toNat 10) = ⟨⟨[z, o]⟩⟩ := ext_of2 _ 8 10
    have g4 : List.getD (Array.toList (ByteArray.data ⟨⟨[p, q, r, s, t, u, v, w, z, o]⟩⟩)) 4 0 = t := rfl
    have g7 : List.getD (Array.toList (ByteArray.data ⟨⟨[p, q, r, s, t, u, v, w, z, o]⟩⟩)) 7 0 = w := rfl
    rw [es, x1, x2, x3, g4, g7] at hx
    split at hx
    · cases hx
    rename_i h1
    split at hx
    · cases hx
    rename_i h2
    split at hx
    · cases hx
    rename_i h3
    split at hx
    · cases hx
    rename_i h4
    split at hx
    · cases hx
    rename_i h5
    have h1' : t = 45 := Classical.byContradiction fun e => h1 (by45.2 e)
    have h2' : w = 45 := Classical.byContradiction fun e => h2 (by45.2 e)
    have hD := dat_of hx
    obtain ⟨a, ha, ea, la⟩ := dig_four (l := [p, q, r, s]) rfl (by simpa using h3) hD.1
    obtain ⟨b, hb, eb, lb⟩ := dig_two (a := u) (b := v) (by simpa using h4)
    obtain ⟨c, hc, ec, lc⟩ := dig_two (a := z) (b := o) (by simpa using h5)
    rw [ea, eb, ec] at hD
    obtain ⟨a', b', c', e1, e2, e3, r1, r2, r3⟩ := date_nat hD
    refine ⟨a, b, c, hD, by omega, by omega, by omega, ?_⟩
    unfold dT
    rw [← la, ← lb, ← lc, h1', h2']
    rfl

theorem read_date (x : ByteArray) (h : x.size ≤ 1048576) : P13 x ∧ P9 x ∧ g9_0 x = g13_0 x ∧ g9_1 x = g13_1 x := by
  have ifT3 : ∀ {c : Prop} [Decidable c] {Q : Prop}, (¬ c → Q) → if c then True else Q := by
    intro c _ Q h
    by_cases hc : c
    · rw [if_pos hc]; trivial
    · rw [if_neg hc]; exact h hc
  refine ⟨?_, ?_, ?_⟩
  · unfold P13
    refine ifT3 fun h0 => ?_
    have hs : ((x.size : Nat) : Int) = 10 := by simpa using h0
    have k : ∀ a b : Nat, a ≤ b → b ≤ 10 → P24 (ByteArray.extract x a b) := fun a b _ hb => by
      show (ByteArray.extract x a b).size ≤ 18
      rw [ByteArray.size_extract]; omega
    refine ⟨by omega, ifT3 fun _ => ⟨by omega, ifT3 fun _ => ⟨by omega, k 0 4 (by omega) (by omega), by omega, k 5 7 (by omega) (by omega), by omega, k 8 _ (by omega) (by omega), trivial⟩⟩⟩
  · unfold P9
    refine ⟨⟨by omega, Nat.le_refl 1⟩, ifT3 fun h0 => ?_⟩
    have hl : (((g17_0 x (ByteArray.mk #[45])).length : Nat) : Int) = 3 := by simpa using h0
    generalize g19_0 (List.getD (g17_0 x (ByteArray.mk #[45])) 0 ByteArray.empty) = y
    generalize g19_0 (List.getD (g17_0 x (ByteArray.mk #[45])) 1 ByteArray.empty) = m
    generalize g19_0 (List.getD (g17_0 x (ByteArray.mk #[45])) 2 ByteArray.empty) = d
    refine ⟨by omega, by omega, by omega, ?_, ifT3 fun h1 => ?_⟩
    · unfold P18
      refine ifT3 fun a1 => ifT3 fun a2 => ?_
      have a1' := win.1 (show g32_0 y 2000 2099 = true by simpa using a1)
      have a2' := win.1 (show g32_0 m 1 12 = true by simpa using a2)
      obtain ⟨l0, l1, l2⟩ := len34 a1' (m := m)
      refine ⟨l0, ifT3 fun a3 => ?_⟩
      have a3' := win.1 (show g32_0 d 1 (g33_0 y m) = true by simpa using a3)
      exact ⟨⟨a1', a2', by omega⟩, trivial⟩
    · have hD : Dat y m d := idat (by simpa using h1)
      rw [(inum hD).1]
      exact ⟨text_pre hD, trivial⟩
  · cases hs : g13_1 x with
    | true =>
      obtain ⟨a, b, c, hD, ha, hb, hc, rfl⟩ := date_s2 hs
      obtain ⟨i0, i1⟩ := date_i1 hD ha (by omega) (by omega)
      obtain ⟨s0, s1⟩ := date_s1 hD ha (by omega) (by omega)
      rw [i0, s0]
      exact ⟨rfl, i1⟩
    | false =>
      cases hi : g9_1 x with
      | true =>
        obtain ⟨a, b, c, hD, ha, hb, hc, rfl⟩ := date_i2 hi
        rw [(date_s1 hD ha (by omega) (by omega)).2] at hs
        cases hs
      | false => exact ⟨(date_i3 hi).trans (date_s3 hs).symm, rfl⟩

/-- What is read of any text is the day of a date; its text is that text just if it is taken. -/
theorem dat0 : Dat ((2000 : Nat) : Int) ((1 : Nat) : Int) ((1 : Nat) : Int) := by
  refine ⟨⟨by omega, by omega⟩, ⟨by omega, by omega⟩, by omega, ?_⟩
  have := (len34 (y := ((2000 : Nat) : Int)) ⟨by omega, by omega⟩ (m := ((1 : Nat) : Int))).2.1
  omega

theorem day0 : g34_0 ((2000 : Nat) : Int) ((1 : Nat) : Int) ((1 : Nat) : Int) = 0 := by
  rw [day_at (by omega)]
  rfl

theorem date_any (x : ByteArray) : ∃ a b c : Nat, Dat (a : Int) (b : Int) (c : Int) ∧ (2000 ≤ a ∧ a ≤ 2099) ∧ b ≤ 12 ∧ c ≤ 31 ∧ g9_0 x = g34_0 (a : Int) (b : Int) (c : Int) ∧ (g9_1 x = true ↔ x = dT a b c) := by
  cases hi : g9_1 x with
  | true =>
    obtain ⟨a, b, c, hd, ha, hb, hc, rfl⟩ := date_i2 hi
    exact ⟨a, b, c, hd, ha, by omega, by omega, (date_i1 hd ha (by omega) (by omega)).1, ⟨fun _ => rfl, fun _ => rfl⟩⟩
  | false =>
    refine ⟨2000, 1, 1, dat0, by omega, by omega, by omega, ?_, ⟨(fun h => by cases h), fun h => ?_⟩⟩
    · rw [date_i3 hi, day0]
    · rw [h, (date_i1 dat0 (by omega) (by omega) (by omega)).2] at hi
      cases hi

theorem dT_size (a b c : Nat) : (dT a b c).size = 10 := rfl
theorem dT_free {a b c : Nat} {k : UInt8} (h1 : ¬ (48 ≤ k.toNat ∧ k.toNat ≤ 57)) (h2 : k ≠ 45) (hb : b < 100) (hc : c < 100) : k ∉ (dT a b c).data.toList := by
  have hD : ∀ n, n < 10 → k ≠ D10 n := fun n hn e => by
    have := congrArg UInt8.toNat e
    rw [D10_nat hn] at this
    omega
  have h50 : k ≠ 50 := fun e => by rw [e] at h1; exact h1 (by decide)
  have h48 : k ≠ 48 := fun e => by rw [e] at h1; exact h1 (by decide)
  show k ∉ [50, 48, D10 (a % 100 / 10), D10 (a % 10)] ++ 45 :: ([D10 (b / 10), D10 (b % 10)] ++ 45 :: [D10 (c / 10), D10 (c % 10)])
  simp only [List.mem_cons, List.mem_append, List.mem_nil_iff, or_false, not_or]
  exact ⟨⟨h50, h48, hD _ (by omega), hD _ (by omega)⟩, h2, ⟨hD _ (by omega), hD _ (by omega)⟩, h2, hD _ (by omega), hD _ (by omega)⟩

end Go.Proofs.YthjgopkjdnhliaaGreatDoor

/- A law that says how functions of the program and of the specification hang together. -/
set_option linter.unusedVariables false
set_option linter.unusedSimpArgs false
set_option maxRecDepth 100000
namespace Go.Proofs.YthjgopkjdnhliaaGreatDoor
open Go Go.Am Go.Proofs

theorem n18_dig : ∀ (l : List UInt8) (m : Nat), (∀ b ∈ l, isD b) → dig26 l (m : Int) = (((dval l m : Nat) : Int), true)
  | [], _, _ => rfl
  | b :: r, m, hd => by
    have hb : isD b := hd b (List.mem_cons_self ..)
    unfold isD at hb
    unfold dig26 d26
    rw [if_pos (by simpa using hb)]
    have e1 : 10 * (m : Int) + ((b.toNat : Int) - 48) = ((10 * m + (b.toNat - 48) : Nat) : Int) := by omega
    rw [e1]
    exact n18_dig r _ (fun c hc => hd c (List.mem_cons_of_mem _ hc))

theorem n18_all : ∀ (l : List UInt8) (n : Int), (dig26 l n).2 = true → ∀ b ∈ l, isD b
  | [], n, h, b, hb => by cases hb
  | c :: r, n, h, b, hb => by
    unfold dig26 at h
    split at h
    · rename_i hd
      rcases List.mem_cons.1 hb with rfl | hb
      · unfold d26 at hd; unfold isD; simpa using hd
      · exact n18_all r _ h b hb
    · cases h

theorem n18_zero : ∀ (l : List UInt8) (n : Int), (dig26 l n).2 = false → (dig26 l n).1 = 0
  | [], n, h => by cases h
  | c :: r, n, h => by
    unfold dig26 at h ⊢
    split at h
    · rename_i hd
      rw [if_pos hd]
      exact n18_zero r _ h
    · rename_i hd
      rw [if_neg hd]

theorem n18_cons (b : UInt8) (r : List UInt8) : num26 (b :: r) = if b.toNat = 45 then (if r.length = 0 ∨ 18 < r.length ∨ (r.getD 0 0).toNat = 48 then (0, false) else fin26 1 (dig26 r 0))
    else if 18 < r.length + 1 ∨ (b.toNat = 48 ∧ 0 < r.length) then (0, false) else fin26 0 (dig26 (b :: r) 0) := rfl

theorem dval_lt : ∀ (l : List UInt8) (m : Nat), (∀ b ∈ l, isD b) → dval l m < (m + 1) * 10 ^ l.length
  | [], m, _ => by simp [dval]
  | b :: r, m, hd => by
    have hb : isD b := hd b (List.mem_cons_self ..)
    unfold isD at hb
    have ih := dval_lt r (10 * m + (b.toNat - 48)) (fun c hc => hd c (List.mem_cons_of_mem _ hc))
    show dval r (10 * m + (b.toNat - 48)) < _
    rw [List.length_cons, Nat.pow_succ]
    have h1 : (10 * m + (b.toNat - 48) + 1) * 10 ^ r.length ≤ (10 * (m + 1)) * 10 ^ r.length := Nat.mul_le_mul_right _ (by omega)
    have h2 : (10 * (m + 1)) * 10 ^ r.length = (m + 1) * (10 ^ r.length * 10) := by
      rw [Nat.mul_comm 10 (m + 1), Nat.mul_assoc, Nat.mul_comm 10]
    omega

theorem dval_le : ∀ (l : List UInt8) (m : Nat), m ≤ dval l m
  | [], m => Nat.le_refl _
  | b :: r, m => by
    have := dval_le r (10 * m + (b.toNat - 48))
    show m ≤ dval r (10 * m + (b.toNat - 48))
    omega

/-- Numbers of at most eighteen digits. -/
def N18 (n : Int) : Prop := -1000000000000000000 < n ∧ n < 1000000000000000000

theorem n18_len {n : Nat} : (Lib.decDigits n).length ≤ 18 ↔ n < 1000000000000000000 := by
  constructor
  · intro h
    obtain ⟨d1, d2, _⟩ := dec_facts n
    have := dval_lt (Lib.decDigits n) 0 d1
    rw [d2] at this
    have hp : 10 ^ (Lib.decDigits n).length ≤ 10 ^ 18 := Nat.pow_le_pow_right (by decide) h
    have e : (10 : Nat) ^ 18 = 1000000000000000000 := by decide
    rw [e] at hp
    omega
  · intro h
    exact dec_len 17 n (by omega)

theorem numB_neg {n : Int} (h : n < 0) : numB n = ⟨⟨45 :: Lib.decDigits n.natAbs⟩⟩ := by unfold numB Lib.itoa; rw [if_pos h]
theorem numB_pos {n : Int} (h : ¬ n < 0) : numB n = ⟨⟨Lib.decDigits n.toNat⟩⟩ := by unfold numB Lib.itoa; rw [if_neg h]

theorem dec_head {n : Nat} : ∃ b r, Lib.decDigits n = b :: r ∧ isD b ∧ (b.toNat = 48 → r = []) := by
  obtain ⟨d1, d2, d3, d4⟩ := dec_facts n
  have hz : Lib.decDigits 0 = [48] := by rw [Lib.decDigits, dif_pos (by decide)]; rfl
  cases hd : Lib.decDigits n with
  | nil => rw [hd] at d3; simp at d3
  | cons b r =>
    refine ⟨b, r, rfl, ?_, fun h48 => ?_⟩
    · rw [hd] at d1; exact d1 b (List.mem_cons_self ..)
    · rcases Nat.eq_zero_or_pos n with rfl | hn
      · rw [hz] at hd; cases hd; rfl
      · have := d4 hn
        rw [hd] at this
        exact absurd h48 this

theorem num_s1 {n : Int} (h : N18 n) : g26_0 (numB n) = n ∧ g26_1 (numB n) = true := by
  obtain ⟨h1, h2⟩ := h
  have e : num26 (numB n).data.toList = (n, true) := by
    by_cases hn : n < 0
    · rw [numB_neg hn]
      show num26 (45 :: Lib.decDigits n.natAbs) = _
      obtain ⟨d1, d2, d3, d4⟩ := dec_facts n.natAbs
      have hl := (n18_len (n := n.natAbs)).2 (by omega)
      rw [n18_cons, if_pos (by rfl), if_neg (fun hh => by
        rcases hh with hh | hh | hh
        · omega
        · omega
        · exact d4 (by omega) hh)]
      unfold fin26
      rw [if_pos rfl]
      have := n18_dig (Lib.decDigits n.natAbs) 0 d1
      rw [d2] at this
      change dig26 _ 0 = _ at this
      rw [this]
      simp only [Prod.mk.injEq, and_true]
      omega
    · rw [numB_pos hn]
      show num26 (Lib.decDigits n.toNat) = _
      obtain ⟨d1, d2, d3, d4⟩ := dec_facts n.toNat
      have hl := (n18_len (n := n.toNat)).2 (by omega)
      obtain ⟨b, r, hd, hb, h48⟩ := dec_head (n := n.toNat)
      rw [hd] at d1 d2 d3 d4 hl ⊢
      unfold isD at hb
      rw [n18_cons, if_neg (by omega), if_neg (fun hh => by
        rcases hh with hh | ⟨hh, hr⟩
        · simp at hl; omega
        · rw [h48 hh] at hr; simp at hr)]
      unfold fin26
      rw [if_neg (by decide)]
      have := n18_dig (b :: r) 0 d1
      rw [d2] at this
      change dig26 _ 0 = _ at this
      rw [this]
      simp only [Prod.mk.injEq, and_true]
      omega
  unfold g26_0 g26_1
  rw [e]
  exact ⟨rfl, rfl⟩

theorem num_s2 {x : ByteArray} (h : g26_1 x = true) : ∃ n : Int, N18 n ∧ x = numB n := by
  obtain ⟨⟨p⟩⟩ := x
  unfold g26_1 at h
  change (num26 p).2 = true at h
  cases p with
  | nil => cases h
  | cons b r =>
    rw [n18_cons] at h
    split at h
    · rename_i hb
      have hb' : b = 45 := by rw [← UInt8.toNat_inj]; exact hb
      split at h
      · cases h
      · rename_i hc
        unfold fin26 at h
        rw [if_pos rfl] at h
        have hall := n18_all r 0 h
        cases r with
        | nil => simp at hc
        | cons c q =>
          have hcd : isD c := hall c (List.mem_cons_self ..)
          unfold isD at hcd
          have hc2 : c.toNat ≠ 48 := fun e => hc (.inr (.inr e))
          have hp : 1 ≤ dval (c :: q) 0 := dval_pos q _ (by omega)
          have hcan := dec_canon (c :: q).length (c :: q) rfl hall (by simp) (.inl hc2)
          have hlen : (c :: q).length ≤ 18 := by
            rcases Nat.lt_or_ge 18 (c :: q).length with hh | hh
            · exact absurd (.inr (.inl hh)) hc
            · exact hh
          have hlt := n18_len.1 (by rw [hcan]; exact hlen)
          refine ⟨-(dval (c :: q) 0 : Int), ⟨by omega, by omega⟩, ?_⟩
          rw [numB_neg (by omega), hb', Int.natAbs_neg, Int.natAbs_natCast, hcan]
    · rename_i hb
      split at h
      · cases h
      · rename_i hc
        unfold fin26 at h
        rw [if_neg (by decide)] at h
        have hall := n18_all (b :: r) 0 h
        have hcan := dec_canon (b :: r).length (b :: r) rfl hall (by simp) (by
          by_cases hr : 0 < r.length
          · exact .inl (fun e => hc (.inr ⟨e, hr⟩))
          · exact .inr (by rw [List.length_cons]; omega))
        have hlen : (b :: r).length ≤ 18 := by
          rw [List.length_cons]
          rcases Nat.lt_or_ge 18 (r.length + 1) with hh | hh
          · exact absurd (.inl hh) hc
          · exact hh
        have hlt := n18_len.1 (by rw [hcan]; exact hlen)
        refine ⟨(dval (b :: r) 0 : Int), ⟨by omega, by omega⟩, ?_⟩
        rw [numB_pos (by omega), Int.toNat_natCast, hcan]

theorem num_s3 {x : ByteArray} (h : g26_1 x = false) : g26_0 x = 0 := by
  obtain ⟨⟨p⟩⟩ := x
  unfold g26_1 at h
  unfold g26_0
  change (num26 p).2 = false at h
  show (num26 p).1 = 0
  cases p with
  | nil => rfl
  | cons b r =>
    rw [n18_cons] at h ⊢
    split at h
    · rename_i hb
      rw [if_pos hb]
      split at h
      · rename_i hc; rw [if_pos hc]
      · rename_i hc
        rw [if_neg hc]
        unfold fin26 at h ⊢
        rw [if_pos rfl] at h ⊢
        have := n18_zero r 0 h
        simp only [this]; rfl
    · rename_i hb
      rw [if_neg hb]
      split at h
      · rename_i hc; rw [if_pos hc]
      · rename_i hc
        rw [if_neg hc]
        unfold fin26 at h ⊢
        rw [if_neg (by decide)] at h ⊢
        exact n18_zero (b :: r) 0 h

theorem uint_dval : ∀ (l : List UInt8) (m : Nat), (∀ b ∈ l, isD b) → dval l m < 1000000000000000000 → Lib.parseUintM 18446744073709551615 m l = .ok (dval l m)
  | [], _, _, _ => rfl
  | b :: r, m, hd, h => by
    have hb : isD b := hd b (List.mem_cons_self ..)
    unfold isD at hb
    have hle := dval_le r (10 * m + (b.toNat - 48))
    have h' : dval r (10 * m + (b.toNat - 48)) < 1000000000000000000 := h
    unfold Lib.parseUintM
    rw [if_pos hb, if_neg (by omega), if_neg (by omega), Nat.mul_comm m 10]
    exact uint_dval r _ (fun c hc => hd c (List.mem_cons_of_mem _ hc)) h'

theorem uint_dec {n : Nat} (h : n < 1000000000000000000) : Lib.parseUintB 64 (Lib.decDigits n) = .ok n := by
  obtain ⟨d1, d2, d3, _⟩ := dec_facts n
  unfold Lib.parseUintB
  rw [if_neg (fun e => by rw [e] at d3; simp at d3)]
  have e : (2 : Nat) ^ 64 - 1 = 18446744073709551615 := by decide
  have := uint_dval (Lib.decDigits n) 0 d1 (by rw [d2]; exact h)
  rw [d2] at this
  rw [e]; exact this

theorem parse_dec {n : Int} (h : N18 n) : Lib.parseIntB 64 (numB n).data.toList = .ok n := by
  obtain ⟨h1, h2⟩ := h
  have e63 : (2 : Nat) ^ (64 - 1) = 9223372036854775808 := by decide
  by_cases hn : n < 0
  · rw [numB_neg hn]
    show Lib.parseIntB 64 (45 :: Lib.decDigits n.natAbs) = _
    rw [Lib.parseIntB_minus, uint_dec (by omega), e63]
    unfold Lib.signedC
    simp only
    rw [if_neg (by omega)]
    congr 1
    omega
  · rw [numB_pos hn]
    show Lib.parseIntB 64 (Lib.decDigits n.toNat) = _
    have hu := uint_dec (n := n.toNat) (by omega)
    obtain ⟨b, r, hd, hb, _⟩ := dec_head (n := n.toNat)
    unfold isD at hb
    rw [hd] at hu ⊢
    rw [Lib.parseIntB_plain _ _ _ (by omega) (by omega), hu, e63]
    unfold Lib.signlessC
    simp only
    rw [if_neg (by omega)]
    congr 1
    omega

theorem trim_dec {n : Int} : (g56_0 (numB n) ⟨#[45]⟩).size = (Lib.decDigits n.natAbs).length := by
  unfold g56_0
  show (Lib.trimPrefix (numB n).data.toList [45]).length = _
  unfold Lib.trimPrefix Lib.hasPrefix
  by_cases hn : n < 0
  · rw [numB_neg hn]
    rfl
  · rw [numB_pos hn]
    obtain ⟨b, r, hd, hb, _⟩ := dec_head (n := n.toNat)
    unfold isD at hb
    have hne : (45 : UInt8) ≠ b := fun e => by rw [← e] at hb; exact absurd hb (by decide)
    have e : n.natAbs = n.toNat := by omega
    rw [e, hd]
    have : ([45] : List UInt8).isPrefixOf (b :: r) = false := by simp [List.isPrefixOf, hne]
    show (if ([45] : List UInt8).isPrefixOf (b :: r) = true then _ else (b :: r)).length = _
    rw [this]
    rfl

theorem rd_i1 {n : Int} (h : N18 n) : g39_0 (numB n) = n ∧ g39_1 (numB n) = true := by
  have hl := (n18_len (n := n.natAbs)).2 (by unfold N18 at h; omega)
  have h0 := (dec_facts n.natAbs).2.2.1
  have e : rd39 (numB n) = some n := by
    unfold rd39 long39
    rw [trim_dec, if_neg (by rw [Bool.or_eq_true, decide_eq_true_eq, decide_eq_true_eq]; omega), parse_dec h]
    simp
  unfold g39_0 g39_1
  rw [e]
  exact ⟨rfl, rfl⟩

theorem rd_i2 {x : ByteArray} (h : g39_1 x = true) : ∃ n : Int, N18 n ∧ x = numB n := by
  unfold g39_1 rd39 at h
  split at h
  · cases h
  · rename_i hl
    split at h
    · rename_i v hv
      split at h
      · rename_i he
        unfold long39 at hl
        rw [← he, trim_dec] at hl
        have : (Lib.decDigits v.natAbs).length ≤ 18 := by
          simp at hl; omega
        have := n18_len.1 this
        exact ⟨v, ⟨by omega, by omega⟩, he.symm⟩
      · cases h
    · cases h

theorem rd_i3 {x : ByteArray} (h : g39_1 x = false) : g39_0 x = 0 := by
  unfold g39_1 at h
  unfold g39_0
  cases hr : rd39 x with
  | none => rfl
  | some v => rw [hr] at h; cases h

theorem read_dec (x : ByteArray) : g26_0 x = g39_0 x ∧ g26_1 x = g39_1 x := by
  cases hs : g26_1 x with
  | true =>
    obtain ⟨n, hn, rfl⟩ := num_s2 hs
    obtain ⟨i0, i1⟩ := rd_i1 hn
    rw [i0, i1, (num_s1 hn).1]
    exact ⟨rfl, rfl⟩
  | false =>
    cases hi : g39_1 x with
    | true =>
      obtain ⟨n, hn, rfl⟩ := rd_i2 hi
      rw [(num_s1 hn).2] at hs
      cases hs
    | false => exact ⟨(num_s3 hs).trans (rd_i3 hi).symm, rfl⟩

/-- What is read of any text is the number of a numeral; it is that text just if it is taken. -/
theorem rd_any (x : ByteArray) : ∃ n : Int, N18 n ∧ g39_0 x = n ∧ (g39_1 x = true ↔ x = numB n) := by
  cases hi : g39_1 x with
  | true =>
    obtain ⟨n, hn, rfl⟩ := rd_i2 hi
    exact ⟨n, hn, (rd_i1 hn).1, ⟨fun _ => rfl, fun _ => rfl⟩⟩
  | false =>
    have h0 : N18 0 := ⟨by omega, by omega⟩
    refine ⟨0, h0, rd_i3 hi, ⟨(fun h => by cases h), fun h => ?_⟩⟩
    rw [h, (rd_i1 h0).2] at hi
    cases hi

theorem num_free {n : Int} {k : UInt8} (h1 : ¬ isD k) (h2 : k ≠ 45) : k ∉ (numB n).data.toList := by
  intro hm
  by_cases hn : n < 0
  · rw [numB_neg hn] at hm
    rcases List.mem_cons.1 hm with h | h
    · exact h2 h
    · exact h1 ((dec_facts _).1 _ h)
  · rw [numB_pos hn] at hm
    exact h1 ((dec_facts _).1 _ hm)

end Go.Proofs.YthjgopkjdnhliaaGreatDoor

/- A law that says how functions of the program and of the specification hang together. -/
set_option linter.unusedVariables false
set_option linter.unusedSimpArgs false
set_option maxRecDepth 100000
namespace Go.Proofs.YthjgopkjdnhliaaGreatDoor
open Go Go.Am Go.Proofs

/-- Texts that are split at a blank. -/
theorem app_list (a b : ByteArray) : (a ++ b).data.toList = a.data.toList ++ b.data.toList := by
  rw [ByteArray.data_append, Array.toList_append]

theorem bytes_ext {a b : ByteArray} (h : a.data.toList = b.data.toList) : a = b := by
  obtain ⟨⟨l⟩⟩ := a
  obtain ⟨⟨m⟩⟩ := b
  simp at h
  rw [h]

theorem split_two {x : List UInt8} {k : UInt8} {a b : List UInt8} (h : splitC k x = [a, b]) : x = a ++ k :: b := by
  have := splitC_join k x
  rw [h] at this
  rw [← this]
  simp [List.intercalate]

theorem split_three {x : List UInt8} {k : UInt8} {a b c : List UInt8} (h : splitC k x = [a, b, c]) : x = a ++ k :: (b ++ k :: c) := by
  have := splitC_join k x
  rw [h] at this
  rw [← this]
  simp [List.intercalate]

theorem split_of_two {k : UInt8} {a b : List UInt8} (ha : k ∉ a) (hb : k ∉ b) : splitC k (a ++ k :: b) = [a, b] := by
  rw [splitC_hit k _ ha, splitC_free k hb]

theorem split_of_three {k : UInt8} {a b c : List UInt8} (ha : k ∉ a) (hb : k ∉ b) (hc : k ∉ c) : splitC k (a ++ k :: (b ++ k :: c)) = [a, b, c] := by
  rw [splitC_hit k _ ha, splitC_hit k _ hb, splitC_free k hc]

theorem list_three {α : Type} : ∀ {l : List α}, l.length = 3 → ∃ a b c, l = [a, b, c]
  | [a, b, c], _ => ⟨a, b, c, rfl⟩
theorem list_two {α : Type} : ∀ {l : List α}, l.length = 2 → ∃ a b, l = [a, b]
  | [a, b], _ => ⟨a, b, rfl⟩

/-- Two heads free of k. -/
theorem cut_eq {k : UInt8} : ∀ {p q b c : List UInt8}, k ∉ p → k ∉ b → p ++ k :: q = b ++ k :: c → p = b ∧ q = c
  | [], q, [], c, _, _, h => by simpa using h
  | [], q, y :: b, c, _, hb, h => by
    simp only [List.nil_append, List.cons_append, List.cons.injEq] at h
    exact absurd (by rw [h.1]; exact List.mem_cons_self ..) hb
  | x :: p, q, [], c, hp, _, h => by
    simp only [List.nil_append, List.cons_append, List.cons.injEq] at h
    exact absurd (by rw [h.1]; exact List.mem_cons_self ..) hp
  | x :: p, q, y :: b, c, hp, hb, h => by
    simp only [List.cons_append, List.cons.injEq] at h
    obtain ⟨e1, e2⟩ := cut_eq (fun hm => hp (List.mem_cons_of_mem _ hm)) (fun hm => hb (List.mem_cons_of_mem _ hm)) h.2
    exact ⟨by rw [h.1, e1], e2⟩

end Go.Proofs.YthjgopkjdnhliaaGreatDoor

/- A law that says how functions of the program and of the specification hang together. -/
set_option linter.unusedVariables false
set_option linter.unusedSimpArgs false
set_option maxRecDepth 100000
namespace Go.Proofs.YthjgopkjdnhliaaGreatDoor
open Go Go.Am Go.Proofs

/-- Texts of lists. -/
theorem in_eqL (x a b : Int) : g27_0 x a b = g32_0 x a b := rfl

def V12 (n : Int) : Prop := -1000000000000 ≤ n ∧ n ≤ 1000000000000
theorem v18 {n : Int} (h : V12 n) : N18 n := by unfold V12 at h; exact ⟨by omega, by omega⟩
theorem in12 {n : Int} : g27_0 n (-1000000000000) 1000000000000 = true ↔ V12 n := by
  unfold g27_0 V12
  by_cases c1 : n ≥ -1000000000000
  · have c1' : -1000000000000 ≤ n := c1
    by_cases c2 : n ≤ 1000000000000 <;> simp [c1, c2]
  · have c1' : ¬ -1000000000000 ≤ n := c1
    simp [c1, c1']
theorem val12 {n : Int} : g43_0 n = true ↔ V12 n := in12

theorem list_bad (l : List Int) : g41c42_0 l = l.any fun n => !g43_0 n := any58c42 l

/-- The text of a list that is not empty. -/
theorem list_text {l : List Int} (h0 : l ≠ []) (h1 : l.length ≤ 64) (h2 : ∀ n ∈ l, V12 n) : g23_0 l = g44_0 (l.map numB) (ByteArray.mk #[44]) := by
  have e : (l.map g37_0) = l.map numB := rfl
  unfold g23_0
  rw [if_neg (by omega), e, if_neg, if_neg (fun h => h0 (List.eq_nil_of_length_eq_zero h))]
  rw [list_bad]
  intro h
  obtain ⟨n, hn, hb⟩ := List.any_eq_true.1 h
  rw [val12.2 (h2 n hn)] at hb
  cases hb

theorem list_none {l : List Int} (h : ¬ (l.length ≤ 64 ∧ ∀ n ∈ l, V12 n)) : g23_0 l = ByteArray.mk #[] := by
  unfold g23_0
  by_cases h1 : l.length > 64
  · rw [if_pos h1]
  · rw [if_neg h1]
    have h2 : ¬ ∀ n ∈ l, V12 n := fun hh => h ⟨by omega, hh⟩
    rw [if_pos]
    rw [list_bad]
    have : ∃ n, n ∈ l ∧ ¬ V12 n := by
      apply Classical.byContradiction
      intro hc
      exact h2 fun n hn => Classical.byContradiction fun hv => hc ⟨n, hn, hv⟩
    obtain ⟨n, hn, hv⟩ := this
    refine List.any_eq_true.2 ⟨n, hn, ?_⟩
    rw [Bool.not_eq_true', Bool.eq_false_iff]
    exact fun hh => hv (val12.1 hh)

theorem join_two (p q : List UInt8) (r : List (List UInt8)) (k : UInt8) : [k].intercalate (p :: q :: r) = p ++ k :: [k].intercalate (q :: r) := by
  simp [List.intercalate]

theorem split_join (k : UInt8) : ∀ (ps : List (List UInt8)), ps ≠ [] → (∀ p ∈ ps, k ∉ p) → splitC k ([k].intercalate ps) = ps
  | [], h, _ => absurd rfl h
  | [p], _, h => by
    have : [k].intercalate [p] = p := by simp [List.intercalate]
    rw [this, splitC_free k (h p (List.mem_cons_self ..))]
  | p :: q :: r, _, h => by
    rw [join_two, splitC_hit k _ (h p (List.mem_cons_self ..)), split_join k (q :: r) (by simp) fun x hx => h x (List.mem_cons_of_mem _ hx)]

theorem join_list (l : List ByteArray) : (g44_0 l (ByteArray.mk #[44])).data.toList = [44].intercalate (l.map fun x => x.data.toList) := rfl

theorem split44 (x : ByteArray) : g17_0 x (ByteArray.mk #[44]) = bss (splitC 44 x.data.toList) := splitB_one 44 x

theorem bss_ne (x : ByteArray) : bss (splitC 44 x.data.toList) ≠ [] := by
  intro h
  unfold bss at h
  exact splitC_ne 44 _ (List.map_eq_nil_iff.1 h)

theorem bss_lists (ls : List (List UInt8)) : (bss ls).map (fun x => x.data.toList) = ls := by
  unfold bss
  rw [List.map_map]
  conv => rhs; rw [← List.map_id ls]
  rfl

/-- A list is read just if its words are numerals of its numbers. -/
theorem read_iff (x : ByteArray) : g23_0 (nums21 x) = x ↔ ((ws21 x).length ≤ 64 ∧ ∀ w ∈ ws21 x, g39_1 w = true ∧ V12 (g39_0 w)) := by
  have ew : ws21 x = bss (splitC 44 x.data.toList) := split44 x
  have hlen : (nums21 x).length = (ws21 x).length := by unfold nums21; rw [List.length_map]
  have hne : nums21 x ≠ [] := fun h => bss_ne x (by
    rw [← ew]
    refine List.eq_nil_of_length_eq_zero ?_
    rw [← hlen, h]; rfl)
  constructor
  · intro ht
    have hok : (nums21 x).length ≤ 64 ∧ ∀ n ∈ nums21 x, V12 n := by
      apply Classical.byContradiction
      intro hc
      rw [list_none hc] at ht
      subst ht
      apply hc
      have e1 : ws21 (ByteArray.mk #[]) = [ByteArray.mk #[]] := by rw [ew]; rfl
      have hf : g39_1 (ByteArray.mk #[]) = false := by
        rw [Bool.eq_false_iff]
        intro h
        obtain ⟨n, _, hn⟩ := rd_i2 h
        have := congrArg ByteArray.size hn
        by_cases hs : n < 0
        · rw [numB_neg hs] at this; exact absurd this (by show ¬ (0 : Nat) = (45 :: Lib.decDigits n.natAbs).length; simp)
        · rw [numB_pos hs] at this
          have hp := (dec_facts n.toNat).2.2.1
          have : 0 = (Lib.decDigits n.toNat).length := this
          omega
      unfold nums21
      rw [e1]
      simp only [List.map_cons, List.map_nil, List.length_singleton, List.mem_singleton, forall_eq, rd_i3 hf]
      exact ⟨by omega, by unfold V12; omega⟩
    rw [list_text hne hok.1 hok.2] at ht
    have hd := congrArg (fun b : ByteArray => splitC 44 b.data.toList) ht
    simp only [join_list] at hd
    rw [split_join 44 _ (by simpa using hne) (fun p hp => by
      obtain ⟨y, hy, rfl⟩ := List.mem_map.1 hp
      obtain ⟨n, hn, rfl⟩ := List.mem_map.1 hy
      exact num_free (by unfold isD; decide) (by decide))] at hd
    have hw : ws21 x = (nums21 x).map numB := by
      rw [ew, ← hd]
      unfold bss
      rw [List.map_map]
      conv => rhs; rw [← List.map_id ((nums21 x).map numB)]
      rfl
    refine ⟨by rw [← hlen]; exact hok.1, ?_⟩
    have key : ∀ w ∈ ws21 x, w = numB (g39_0 w) := by
      unfold nums21 at hw
      rw [List.map_map] at hw
      intro w hw'
      obtain ⟨i, hi⟩ := List.getElem?_of_mem hw'
      have h1 : (ws21 x)[i]? = some w := hi
      rw [hw, List.getElem?_map, hi] at h1
      simp only [Option.map_some, Option.some.injEq] at h1
      exact h1.symm
    intro w hw'
    obtain ⟨n, hn, e0, e1⟩ := rd_any w
    refine ⟨e1.2 (by rw [← e0]; exact key w hw'), ?_⟩
    exact hok.2 _ (List.mem_map.2 ⟨w, hw', rfl⟩)
  · rintro ⟨h1, h2⟩
    have hv : ∀ n ∈ nums21 x, V12 n := fun n hn => by
      obtain ⟨w, hw, rfl⟩ := List.mem_map.1 hn
      exact (h2 w hw).2
    rw [list_text hne (by rw [hlen]; exact h1) hv]
    refine bytes_ext ?_
    rw [join_list]
    have hm : (nums21 x).map numB = ws21 x := by
      unfold nums21
      rw [List.map_map]
      conv => rhs; rw [← List.map_id (ws21 x)]
      refine List.map_congr_left fun w hw => ?_
      obtain ⟨n, hn, e0, e1⟩ := rd_any w
      show numB (g39_0 w) = w
      rw [e0]; exact (e1.1 (h2 w hw).1).symm
    rw [hm, ew, bss_lists, splitC_join]

open Classical in
theorem rl_spec : ∀ (ws : List ByteArray), rl14 ws = if (∀ w ∈ ws, g39_1 w = true ∧ V12 (g39_0 w)) then some (ws.map g39_0) else none
  | [] => by simp [rl14]
  | w :: r => by
    obtain ⟨e0, e1⟩ := read_dec w
    rw [rl14, rl_spec r]
    have hk : ok14 w = true ↔ (g39_1 w = true ∧ V12 (g39_0 w)) := by
      unfold ok14
      rw [e0, e1, Bool.and_eq_true, in12]
    by_cases h : ok14 w = true
    · rw [if_pos h]
      by_cases hr : ∀ w ∈ r, g39_1 w = true ∧ V12 (g39_0 w)
      · rw [if_pos hr, if_pos (fun y hy => by
          rcases List.mem_cons.1 hy with rfl | hy
          · exact hk.1 h
          · exact hr y hy)]
        simp [e0]
      · rw [if_neg hr, if_neg (fun hh => hr fun y hy => hh y (List.mem_cons_of_mem _ hy))]
    · rw [if_neg h, if_neg (fun hh => h (hk.2 (hh w (List.mem_cons_self ..))))]

theorem read_list (x : ByteArray) : g14_0 x = g21_0 x ∧ g14_1 x = g21_1 x := by
  have e : all14 x = all21 x := by
    unfold all14 all21
    by_cases h0 : x = ByteArray.mk #[45]
    · rw [if_pos h0, if_pos h0]
    · rw [if_neg h0, if_neg h0]
      have ew : ws14 x = ws21 x := (split44 x).symm
      rw [ew, rl_spec]
      have hi := read_iff x
      by_cases h1 : (ws21 x).length > 64
      · rw [if_pos h1, if_neg (fun h => by have := (hi.1 h).1; omega)]
      · rw [if_neg h1]
        by_cases h2 : ∀ w ∈ ws21 x, g39_1 w = true ∧ V12 (g39_0 w)
        · rw [if_pos h2, if_pos (hi.2 ⟨by omega, h2⟩)]
          rfl
        · rw [if_neg h2, if_neg (fun h => h2 (hi.1 h).2)]
  unfold g14_0 g21_0 g14_1 g21_1
  rw [e]
  exact ⟨rfl, rfl⟩

/-- What is read as a list that is not empty bears no other byte than those of numerals and commas. -/
theorem list_free {x : ByteArray} {k : UInt8} (h1 : ¬ isD k) (h2 : k ≠ 45) (h3 : k ≠ 44) (h : g21_0 x ≠ []) : k ∉ x.data.toList := by
  unfold g21_0 all21 at h
  split at h
  · exact absurd rfl h
  · split at h
    · rename_i ht
      obtain ⟨_, h5⟩ := (read_iff x).1 ht
      have ew : ws21 x = bss (splitC 44 x.data.toList) := split44 x
      intro hm
      rw [← splitC_join 44 x.data.toList] at hm
      have key : ∀ ps : List (List UInt8), (∀ p ∈ ps, k ∉ p) → k ∉ [(44 : UInt8)].intercalate ps := by
        intro ps
        induction ps with
        | nil => intro _; simp [List.intercalate]
        | cons p r ih =>
          intro hp
          cases r with
          | nil =>
            have : [(44 : UInt8)].intercalate [p] = p := by simp [List.intercalate]
            rw [this]; exact hp p (List.mem_cons_self ..)
          | cons q r =>
            rw [join_two]
            intro hh
            rcases List.mem_append.1 hh with hh | hh
            · exact hp p (List.mem_cons_self ..) hh
            · rcases List.mem_cons.1 hh with hh | hh
              · exact h3 hh
              · exact ih (fun y hy => hp y (List.mem_cons_of_mem _ hy)) hh
      refine key _ (fun p hp => ?_) hm
      have hmem : (⟨p.toArray⟩ : ByteArray) ∈ ws21 x := by
        rw [ew]; exact List.mem_map.2 ⟨p, hp, rfl⟩
      obtain ⟨n, _, e0, e1⟩ := rd_any ⟨p.toArray⟩
      have he := e1.1 (h5 _ hmem).1
      have : p = (numB n).data.toList := by
        have := congrArg (fun b : ByteArray => b.data.toList) he
        simpa using this
      rw [this]
      exact num_free h1 h2
    · exact absurd rfl h

/-- The text of a list that was read, but for the empty one. -/
theorem list_back {x : ByteArray} (h : g21_0 x ≠ []) : g21_1 x = true ∧ g23_0 (g21_0 x) = x := by
  unfold g21_0 g21_1 at *
  cases ha : all21 x with
  | none => rw [ha] at h; exact absurd rfl h
  | some l =>
    refine ⟨rfl, ?_⟩
    rw [ha] at h
    unfold all21 at ha
    split at ha
    · cases ha; exact absurd rfl h
    · split at ha
      · rename_i ht; cases ha; exact ht
      · cases ha

end Go.Proofs.YthjgopkjdnhliaaGreatDoor

/- The plain law of FnExactReadTest. -/
set_option linter.unusedVariables false
set_option linter.unusedSimpArgs false
set_option maxRecDepth 100000
namespace Go.Proofs.YthjgopkjdnhliaaGreatDoor
open Go Go.Am Go.Proofs

theorem test_eq (x : Int × Int × Int × Unit) : g15_0 x = g22_0 x := rfl

theorem list_two_back {x : ByteArray} {a b : Int} (h : g21_0 x = [a, b]) : g21_1 x = true ∧ g23_0 [a, b] = x ∧ x.data.toList ≠ [] := by
  obtain ⟨h1, h2⟩ := list_back (x := x) (by rw [h]; simp)
  rw [h] at h2
  refine ⟨h1, h2, ?_⟩
  unfold g21_0 all21 at h
  split at h
  · cases h
  · split at h
    · rename_i ht
      have hn : nums21 x = [a, b] := h
      obtain ⟨h5, h6⟩ := (read_iff x).1 ht
      have hv : ∀ n ∈ nums21 x, V12 n := fun n hn => by
        obtain ⟨w, hw, rfl⟩ := List.mem_map.1 hn
        exact (h6 w hw).2
      rw [hn] at hv
      rw [list_text (by simp) (by simp) hv] at h2
      rw [← h2, join_list]
      simp [List.intercalate]
    · cases h

theorem tt22 {n a b : Int} {y p q : Nat} (h : g22_0 (n, a, b, ()) = true) (hn : g20_0 n = dT y p q) :
    (g11_0 (n, a, b, ())).data.toList = (dT y p q).data.toList ++ 32 :: (g23_0 [a, b]).data.toList := by
  unfold g11_0
  rw [if_neg (by rw [h]; simp)]
  simp only [hn, app_list, List.append_assoc]
  rfl

theorem law3 (x : ByteArray) (hw : Wf .str x) : P3 x ∧ g3_0 x = true := by
  unfold P3 g3_0
  by_cases h : (x.size : Int) > 1048576
  · simp only [h, decide_true, if_true, and_self]
  · have hx : x.size ≤ 1048576 := by omega
    have hss : g12_0 x 32 = bss (splitC 32 x.data.toList) := rfl
    have hpp : P12 x 32 := ⟨by omega, by omega, by omega⟩
    have hpc : P8 x (ByteArray.mk #[32]) := (show x.size < 4294967281 from by omega)
    have hsz : x.data.toList.length = x.size := rfl
    have key : P4 x ∧ P5 x ∧ g5_0 x = g4_0 x ∧ g5_1 x = g4_1 x := by
      have rej : ∀ (D R : ByteArray), g8_0 x (ByteArray.mk #[32]) = D → g8_1 x (ByteArray.mk #[32]) = R → D.size ≤ 1048576 → R.size ≤ 1048576 → (splitC 32 x.data.toList).length ≠ 2 → (g21_0 R).length ≠ 2 →
          P4 x ∧ P5 x ∧ g5_0 x = g4_0 x ∧ g5_1 x = g4_1 x := fun D R hD hR zD zR hl hr => by
        unfold P4 P5 g5_0 g5_1 g4_0 g4_1 P7 g7_0 g7_1 g10_0 g10_1 P10
        rw [hss, hD, hR]
        obtain ⟨_, p2, _, _⟩ := read_date D zD
        have hl' : (((bss (splitC 32 x.data.toList)).length : Int) != 2) = true := by
          have : ((bss (splitC 32 x.data.toList)).length : Int) ≠ 2 := by unfold bss; rw [List.length_map]; omega
          simpa using this
        have hr' : (((g21_0 R).length : Int) == 2) = false := by
          rw [Bool.eq_false_iff, ne_eq, beq_iff_eq]; omega
        have pR : P21 R := zR
        simp only [hl', hr', if_true, Bool.not_false, true_and, and_true]
        refine ⟨hpp, ⟨hpc, p2, pR, by split <;> trivial⟩, ?_, ?_⟩
        · split <;> rfl
        · split <;> rfl
      rcases split_at 32 x.data.toList with hn | ⟨p, r, hj, hp⟩
      · have hc : Lib.cut x.data.toList (ByteArray.mk #[32]).data.toList = (x.data.toList, [], false) := cut_none 32 hn
        refine rej x (ByteArray.mk #[]) ?_ ?_ hx (Nat.zero_le _) ?_ ?_
        · unfold g8_0; rw [hc]
        · unfold g8_1; rw [hc]
        · rw [splitC_free 32 hn]; simp
        · intro h2
          obtain ⟨a, b, e⟩ := list_two h2
          exact (list_two_back e).2.2 rfl
      · have hc : Lib.cut x.data.toList (ByteArray.mk #[32]).data.toList = (p, r, true) := by rw [hj]; exact cut_hit 32 r hp
        have c0 : g8_0 x (ByteArray.mk #[32]) = ⟨⟨p⟩⟩ := by unfold g8_0; rw [hc]
        have c1 : g8_1 x (ByteArray.mk #[32]) = ⟨⟨r⟩⟩ := by unfold g8_1; rw [hc]
        have hlen : p.length + (r.length + 1) = x.size := by rw [← hsz, hj]; simp
        have zp : (⟨⟨p⟩⟩ : ByteArray).size = p.length := rfl
        have zr : (⟨⟨r⟩⟩ : ByteArray).size = r.length := rfl
        by_cases hr : (32 : UInt8) ∈ r
        · refine rej _ _ c0 c1 (by omega) (by omega) ?_ ?_
          · rw [hj, splitC_hit 32 r hp, List.length_cons, splitC_length]
            have := List.count_pos_iff.2 hr
            omega
          · intro h2
            refine list_free (x := ⟨⟨r⟩⟩) (k := 32) (by unfold isD; decide) (by decide) (by decide) (fun e => ?_) hr
            rw [e] at h2; simp at h2
        · have hs2 : splitC 32 x.data.toList = [p, r] := by rw [hj]; exact split_of_two hp hr
          unfold P4 P5 g5_0 g5_1 g4_0 g4_1 P7 g7_0 g7_1 g10_0 g10_1 P10
          rw [hss, hs2, c0, c1]
          have e0 : bss [p, r] = [⟨⟨p⟩⟩, ⟨⟨r⟩⟩] := rfl
          rw [e0]
          have n0 : ((([(⟨⟨p⟩⟩ : ByteArray), ⟨⟨r⟩⟩].length : Nat) : Int) != 2) = false := rfl
          have d0 : List.getD [(⟨⟨p⟩⟩ : ByteArray), ⟨⟨r⟩⟩] 0 ByteArray.empty = ⟨⟨p⟩⟩ := rfl
          have d1 : List.getD [(⟨⟨p⟩⟩ : ByteArray), ⟨⟨r⟩⟩] 1 ByteArray.empty = ⟨⟨r⟩⟩ := rfl
          have l0 : (0 : Int) < (([(⟨⟨p⟩⟩ : ByteArray), ⟨⟨r⟩⟩].length : Nat) : Int) := by show (0 : Int) < 2; decide
          have l1 : (1 : Int) < (([(⟨⟨p⟩⟩ : ByteArray), ⟨⟨r⟩⟩].length : Nat) : Int) := by show (1 : Int) < 2; decide
          obtain ⟨p1, p2, r0, r1⟩ := read_date ⟨⟨p⟩⟩ (by omega)
          obtain ⟨q0, q1⟩ := read_list ⟨⟨r⟩⟩
          have pR : P21 ⟨⟨r⟩⟩ := (show r.length ≤ 1048576 from by omega)
          have pS : P14 ⟨⟨r⟩⟩ := (show r.length < 4294967281 from by omega)
          simp only [n0, d0, d1, l0, l1, ← r0, ← r1, q0, q1, Bool.false_eq_true, if_false, true_and, and_true]
          cases s1 : g9_1 ⟨⟨p⟩⟩ with
          | false => simp only [Bool.not_false, if_true, and_true]; exact ⟨⟨hpp, p1, pS⟩, hpc, p2, pR⟩
          | true =>
            obtain ⟨y, m, d, hd, hy, hm, hdd, v0, v1⟩ := date_any ⟨⟨p⟩⟩
            have ep := v1.1 s1
            have hdt : g20_0 (g9_0 ⟨⟨p⟩⟩) = dT y m d := by rw [v0]; exact date_text hd hy hm hdd
            have hdp : P20 (g9_0 ⟨⟨p⟩⟩) := by rw [v0]; exact text_pre hd
            by_cases h2 : (g21_0 ⟨⟨r⟩⟩).length = 2
            · obtain ⟨a, b, e⟩ := list_two h2
              obtain ⟨t1, t2, _⟩ := list_two_back e
              rw [e, t1]
              have n2 : ((([a, b].length : Nat) : Int) != 2) = false := rfl
              have n3 : ((([a, b].length : Nat) : Int) == 2) = true := rfl
              have g0 : List.getD [a, b] 0 0 = a := rfl
              have g1 : List.getD [a, b] 1 0 = b := rfl
              have m0 : (0 : Int) < (([a, b].length : Nat) : Int) := by show (0 : Int) < 2; decide
              have m1 : (1 : Int) < (([a, b].length : Nat) : Int) := by show (1 : Int) < 2; decide
              have hP : P11 (g9_0 ⟨⟨p⟩⟩, a, b, ()) := by
                unfold P11
                split
                · trivial
                · have e1 : (ByteArray.mk #[32]).size = 1 := rfl
                  simp only [hdt, t2, ByteArray.size_append, dT_size, e1, zr]
                  exact ⟨hdp, by omega, by omega, trivial⟩
              simp only [n2, n3, g0, g1, m0, m1, Bool.not_true, Bool.false_eq_true, if_false, true_and, and_true, test_eq]
              refine ⟨⟨hpp, p1, pS⟩, ⟨hpc, p2, pR, hP⟩, ?_⟩
              cases hv : g22_0 (g9_0 ⟨⟨p⟩⟩, a, b, ()) with
              | true =>
                have ht : g11_0 (g9_0 ⟨⟨p⟩⟩, a, b, ()) = x := by
                  refine bytes_ext ?_
                  rw [tt22 hv hdt, t2, ← ep, hj]
                rw [ht]
                simp
              | false =>
                have ht : g11_0 (g9_0 ⟨⟨p⟩⟩, a, b, ()) = ByteArray.mk #[] := by
                  unfold g11_0
                  rw [hv]; rfl
                have hne : (ByteArray.toList (ByteArray.mk #[]) == ByteArray.toList x) = false := by
                  rw [Bool.eq_false_iff]
                  intro hh
                  have := (bytes_eq _ _).1 hh
                  rw [← this] at hj
                  have := congrArg List.length hj
                  simp at this
                rw [ht, hne]
                simp
            · have n2 : (((g21_0 ⟨⟨r⟩⟩).length : Int) != 2) = true := by
                have : ((g21_0 ⟨⟨r⟩⟩).length : Int) ≠ 2 := by omega
                simpa using this
              have n3 : (((g21_0 ⟨⟨r⟩⟩).length : Int) == 2) = false := by
                rw [Bool.eq_false_iff, ne_eq, beq_iff_eq]; omega
              simp only [n2, n3, Bool.not_true, Bool.not_false, Bool.false_eq_true, if_false, if_true, and_true]
              refine ⟨⟨hpp, p1, pS, by split <;> trivial⟩, ⟨hpc, p2, pR⟩, ?_, ?_⟩
              · split <;> rfl
              · split <;> rfl
    obtain ⟨p1, p2, e0, e1⟩ := key
    have heq : ∀ y : Int × Int × Int × Unit, g6_0 y y = true := fun y => by
      unfold g6_0; simp
    simp only [h, decide_false, Bool.false_eq_true, if_false, e0, e1, p1, p2, heq, beq_self_eq_true, Bool.not_true, true_and, and_self]

end Go.Proofs.YthjgopkjdnhliaaGreatDoor
