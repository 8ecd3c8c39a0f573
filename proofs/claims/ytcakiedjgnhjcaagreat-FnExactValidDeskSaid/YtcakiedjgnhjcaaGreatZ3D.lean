/- Several texts in one: the functions that this law reaches, and their laws. -/
import Derived.Test.YtcakiedjgnhjcaaGreatZ3A
import Derived.Test.YtcakiedjgnhjcaaGreatZ3B
import Derived.Test.YtcakiedjgnhjcaaGreatZ3C

/- Function 4 (laws.szDesk): its runs between cut points. Written by a program of this repo (gen). -/
set_option linter.unusedVariables false
set_option linter.unusedSimpArgs false
set_option maxRecDepth 100000
namespace Go.Proofs.YtcakiedjgnhjcaaGreat
open Go Go.Am Go.Proofs
noncomputable section
def ext4 : Ext := [(9, S9), (10, S10), (11, S11), (12, S12), (13, S13), (14, S14), (15, S15), (16, S16)]
theorem call4_9 : Callable Tryz.prog 9 := ⟨Tryz.f9, Tryz.func9, by kernel_rfl, by kernel_rfl⟩
theorem call4_10 : Callable Tryz.prog 10 := ⟨Tryz.f10, Tryz.func10, by kernel_rfl, by kernel_rfl⟩
theorem call4_11 : Callable Tryz.prog 11 := ⟨Tryz.f11, Tryz.func11, by kernel_rfl, by kernel_rfl⟩
theorem call4_12 : Callable Tryz.prog 12 := ⟨Tryz.f12, Tryz.func12, by kernel_rfl, by kernel_rfl⟩
theorem call4_13 : Callable Tryz.prog 13 := ⟨Tryz.f13, Tryz.func13, by kernel_rfl, by kernel_rfl⟩
theorem call4_14 : Callable Tryz.prog 14 := ⟨Tryz.f14, Tryz.func14, by kernel_rfl, by kernel_rfl⟩
theorem call4_15 : Callable Tryz.prog 15 := ⟨Tryz.f15, Tryz.func15, by kernel_rfl, by kernel_rfl⟩
theorem call4_16 : Callable Tryz.prog 16 := ⟨Tryz.f16, Tryz.func16, by kernel_rfl, by kernel_rfl⟩
theorem ext4Ok : ExtOk Tryz.prog ext4 := ⟨⟨call4_9, con9⟩, ⟨call4_10, con10⟩, ⟨call4_11, con11⟩, ⟨call4_12, con12⟩, ⟨call4_13, con13⟩, ⟨call4_14, con14⟩, ⟨call4_15, con15⟩, ⟨call4_16, con16⟩, trivial⟩

noncomputable def b4 : Code := bodyOf Tryz.f4
theorem hb4 : Tryz.f4.body = some b4 := by kernel_rfl
def sig4 : List AT := [AT.v (Ty.cons (Ty.sl (Ty.cons Ty.str (Ty.cons (Ty.int .i64) (Ty.cons (Ty.int .i64) (Ty.cons (Ty.int .i64) Ty.unit))))) (Ty.cons (Ty.cons (Ty.int .i64) (Ty.cons (Ty.int .i64) (Ty.cons (Ty.int .i64) (Ty.cons (Ty.int .i64) Ty.unit)))) (Ty.cons (Ty.sl (Ty.cons (Ty.int .i64) (Ty.cons (Ty.int .i64) (Ty.cons (Ty.int .i64) Ty.unit)))) (Ty.cons (Ty.sl (Ty.cons (Ty.int .i64) (Ty.cons (Ty.int .i64) (Ty.cons (Ty.int .i64) Ty.unit)))) (Ty.cons (Ty.cons (Ty.int .i64) (Ty.cons (Ty.int .i64) (Ty.cons (Ty.int .i64) Ty.unit))) (Ty.cons (Ty.cons (Ty.int .i64) (Ty.cons (Ty.int .i64) (Ty.cons (Ty.int .i64) Ty.unit))) (Ty.cons (Ty.sl (Ty.cons Ty.str (Ty.cons (Ty.int .i64) (Ty.cons (Ty.int .i64) Ty.unit)))) (Ty.cons (Ty.cons (Ty.int .i64) (Ty.cons (Ty.int .i64) (Ty.cons (Ty.int .i64) (Ty.cons (Ty.int .i64) Ty.unit)))) (Ty.cons (Ty.sl (Ty.cons Ty.str (Ty.cons (Ty.int .i64) (Ty.cons (Ty.int .i64) (Ty.cons (Ty.int .i64) Ty.unit))))) (Ty.cons (Ty.sl (Ty.cons (Ty.int .i64) (Ty.cons (Ty.int .i64) (Ty.cons (Ty.int .i64) Ty.unit)))) (Ty.cons (Ty.sl (Ty.cons Ty.str (Ty.cons (Ty.int .i64) (Ty.cons (Ty.int .i64) Ty.unit)))) (Ty.cons (Ty.sl (Ty.cons Ty.str (Ty.cons (Ty.int .i64) (Ty.cons (Ty.int .i64) Ty.unit)))) Ty.unit)))))))))))), AT.v (Ty.int .i64)]
def tys4 : List Ty := [Ty.int .i64]
def kds4 : List RK := []
def oks4 : List AT := owns sig4
def P4 (x0 : TyA0) (x1 : Int) : Prop := ((P9 x0.1 x1) ∧ (if (decide (g9_0 x0.1 x1 < 0)) = true then True else ((P10 x0.2.2.1 (g9_0 x0.1 x1)) ∧ (if (decide (g10_0 x0.2.2.1 (g9_0 x0.1 x1) < 0)) = true then True else ((P11 x0.2.2.2.1 (g10_0 x0.2.2.1 (g9_0 x0.1 x1))) ∧ (if (decide (g11_0 x0.2.2.2.1 (g10_0 x0.2.2.1 (g9_0 x0.1 x1)) < 0)) = true then True else ((P12 x0.2.2.2.2.2.2.1 (g11_0 x0.2.2.2.1 (g10_0 x0.2.2.1 (g9_0 x0.1 x1)))) ∧ (if (decide (g12_0 x0.2.2.2.2.2.2.1 (g11_0 x0.2.2.2.1 (g10_0 x0.2.2.1 (g9_0 x0.1 x1))) < 0)) = true then True else ((P13 x0.2.2.2.2.2.2.2.2.1 (g12_0 x0.2.2.2.2.2.2.1 (g11_0 x0.2.2.2.1 (g10_0 x0.2.2.1 (g9_0 x0.1 x1))))) ∧ (if (decide (g13_0 x0.2.2.2.2.2.2.2.2.1 (g12_0 x0.2.2.2.2.2.2.1 (g11_0 x0.2.2.2.1 (g10_0 x0.2.2.1 (g9_0 x0.1 x1)))) < 0)) = true then True else ((P14 x0.2.2.2.2.2.2.2.2.2.1 (g13_0 x0.2.2.2.2.2.2.2.2.1 (g12_0 x0.2.2.2.2.2.2.1 (g11_0 x0.2.2.2.1 (g10_0 x0.2.2.1 (g9_0 x0.1 x1)))))) ∧ (if (decide (g14_0 x0.2.2.2.2.2.2.2.2.2.1 (g13_0 x0.2.2.2.2.2.2.2.2.1 (g12_0 x0.2.2.2.2.2.2.1 (g11_0 x0.2.2.2.1 (g10_0 x0.2.2.1 (g9_0 x0.1 x1))))) < 0)) = true then True else ((P15 x0.2.2.2.2.2.2.2.2.2.2.1 (g14_0 x0.2.2.2.2.2.2.2.2.2.1 (g13_0 x0.2.2.2.2.2.2.2.2.1 (g12_0 x0.2.2.2.2.2.2.1 (g11_0 x0.2.2.2.1 (g10_0 x0.2.2.1 (g9_0 x0.1 x1))))))) ∧ (if (decide (g15_0 x0.2.2.2.2.2.2.2.2.2.2.1 (g14_0 x0.2.2.2.2.2.2.2.2.2.1 (g13_0 x0.2.2.2.2.2.2.2.2.1 (g12_0 x0.2.2.2.2.2.2.1 (g11_0 x0.2.2.2.1 (g10_0 x0.2.2.1 (g9_0 x0.1 x1)))))) < 0)) = true then True else ((P16 x0.2.2.2.2.2.2.2.2.2.2.2.1 (g15_0 x0.2.2.2.2.2.2.2.2.2.2.1 (g14_0 x0.2.2.2.2.2.2.2.2.2.1 (g13_0 x0.2.2.2.2.2.2.2.2.1 (g12_0 x0.2.2.2.2.2.2.1 (g11_0 x0.2.2.2.1 (g10_0 x0.2.2.1 (g9_0 x0.1 x1)))))))) ∧ True)))))))))))))))
def g4_0 (x0 : TyA0) (x1 : Int) : Int := (if (decide (g9_0 x0.1 x1 < 0)) = true then -1 else (if (decide (g10_0 x0.2.2.1 (g9_0 x0.1 x1) < 0)) = true then -1 else (if (decide (g11_0 x0.2.2.2.1 (g10_0 x0.2.2.1 (g9_0 x0.1 x1)) < 0)) = true then -1 else (if (decide (g12_0 x0.2.2.2.2.2.2.1 (g11_0 x0.2.2.2.1 (g10_0 x0.2.2.1 (g9_0 x0.1 x1))) < 0)) = true then -1 else (if (decide (g13_0 x0.2.2.2.2.2.2.2.2.1 (g12_0 x0.2.2.2.2.2.2.1 (g11_0 x0.2.2.2.1 (g10_0 x0.2.2.1 (g9_0 x0.1 x1)))) < 0)) = true then -1 else (if (decide (g14_0 x0.2.2.2.2.2.2.2.2.2.1 (g13_0 x0.2.2.2.2.2.2.2.2.1 (g12_0 x0.2.2.2.2.2.2.1 (g11_0 x0.2.2.2.1 (g10_0 x0.2.2.1 (g9_0 x0.1 x1))))) < 0)) = true then -1 else (if (decide (g15_0 x0.2.2.2.2.2.2.2.2.2.2.1 (g14_0 x0.2.2.2.2.2.2.2.2.2.1 (g13_0 x0.2.2.2.2.2.2.2.2.1 (g12_0 x0.2.2.2.2.2.2.1 (g11_0 x0.2.2.2.1 (g10_0 x0.2.2.1 (g9_0 x0.1 x1)))))) < 0)) = true then -1 else (if (decide (g16_0 x0.2.2.2.2.2.2.2.2.2.2.2.1 (g15_0 x0.2.2.2.2.2.2.2.2.2.2.1 (g14_0 x0.2.2.2.2.2.2.2.2.2.1 (g13_0 x0.2.2.2.2.2.2.2.2.1 (g12_0 x0.2.2.2.2.2.2.1 (g11_0 x0.2.2.2.1 (g10_0 x0.2.2.1 (g9_0 x0.1 x1))))))) < 0)) = true then -1 else g16_0 x0.2.2.2.2.2.2.2.2.2.2.2.1 (g15_0 x0.2.2.2.2.2.2.2.2.2.2.1 (g14_0 x0.2.2.2.2.2.2.2.2.2.1 (g13_0 x0.2.2.2.2.2.2.2.2.1 (g12_0 x0.2.2.2.2.2.2.1 (g11_0 x0.2.2.2.1 (g10_0 x0.2.2.1 (g9_0 x0.1 x1)))))))))))))))
theorem p4_0 (x0 : TyA0) (x1 : Int) : runF tab ext4 false 54 [] 2000 [] oks4 kds4 tys4 Tryz.f4.results [true] [.code b4] (entE 0 0 sig4 (x0, x1, ())) (entL sig4 (x0, x1, ())) = some ([Dyn.mk (Ty.int .i64) (-1)], [], [P9 x0.1 x1, decide (g9_0 x0.1 x1 < 0) = true]) := by kernel_rfl
theorem p4_1 (x0 : TyA0) (x1 : Int) : runF tab ext4 false 54 [] 2000 [] oks4 kds4 tys4 Tryz.f4.results [false, true] [.code b4] (entE 0 0 sig4 (x0, x1, ())) (entL sig4 (x0, x1, ())) = some ([Dyn.mk (Ty.int .i64) (-1)], [], [P9 x0.1 x1, decide (g9_0 x0.1 x1 < 0) = false, P10 x0.2.2.1 (g9_0 x0.1 x1), decide (g10_0 x0.2.2.1 (g9_0 x0.1 x1) < 0) = true]) := by kernel_rfl
theorem p4_2 (x0 : TyA0) (x1 : Int) : runF tab ext4 false 54 [] 2000 [] oks4 kds4 tys4 Tryz.f4.results [false, false, true] [.code b4] (entE 0 0 sig4 (x0, x1, ())) (entL sig4 (x0, x1, ())) = some ([Dyn.mk (Ty.int .i64) (-1)], [], [P9 x0.1 x1, decide (g9_0 x0.1 x1 < 0) = false, P10 x0.2.2.1 (g9_0 x0.1 x1), decide (g10_0 x0.2.2.1 (g9_0 x0.1 x1) < 0) = false, P11 x0.2.2.2.1 (g10_0 x0.2.2.1 (g9_0 x0.1 x1)), decide (g11_0 x0.2.2.2.1 (g10_0 x0.2.2.1 (g9_0 x0.1 x1)) < 0) = true]) := by kernel_rfl
theorem p4_3 (x0 : TyA0) (x1 : Int) : runF tab ext4 false 54 [] 2000 [] oks4 kds4 tys4 Tryz.f4.results [false, false, false, true] [.code b4] (entE 0 0 sig4 (x0, x1, ())) (entL sig4 (x0, x1, ())) = some ([Dyn.mk (Ty.int .i64) (-1)], [], [P9 x0.1 x1, decide (g9_0 x0.1 x1 < 0) = false, P10 x0.2.2.1 (g9_0 x0.1 x1), decide (g10_0 x0.2.2.1 (g9_0 x0.1 x1) < 0) = false, P11 x0.2.2.2.1 (g10_0 x0.2.2.1 (g9_0 x0.1 x1)), decide (g11_0 x0.2.2.2.1 (g10_0 x0.2.2.1 (g9_0 x0.1 x1)) < 0) = false, P12 x0.2.2.2.2.2.2.1 (g11_0 x0.2.2.2.1 (g10_0 x0.2.2.1 (g9_0 x0.1 x1))), decide (g12_0 x0.2.2.2.2.2.2.1 (g11_0 x0.2.2.2.1 (g10_0 x0.2.2.1 (g9_0 x0.1 x1))) < 0) = true]) := by kernel_rfl
theorem p4_4 (x0 : TyA0) (x1 : Int) : runF tab ext4 false 54 [] 2000 [] oks4 kds4 tys4 Tryz.f4.results [false, false, false, false, true] [.code b4] (entE 0 0 sig4 (x0, x1, ())) (entL sig4 (x0, x1, ())) = some ([Dyn.mk (Ty.int .i64) (-1)], [], [P9 x0.1 x1, decide (g9_0 x0.1 x1 < 0) = false, P10 x0.2.2.1 (g9_0 x0.1 x1), decide (g10_0 x0.2.2.1 (g9_0 x0.1 x1) < 0) = false, P11 x0.2.2.2.1 (g10_0 x0.2.2.1 (g9_0 x0.1 x1)), decide (g11_0 x0.2.2.2.1 (g10_0 x0.2.2.1 (g9_0 x0.1 x1)) < 0) = false, P12 x0.2.2.2.2.2.2.1 (g11_0 x0.2.2.2.1 (g10_0 x0.2.2.1 (g9_0 x0.1 x1))), decide (g12_0 x0.2.2.2.2.2.2.1 (g11_0 x0.2.2.2.1 (g10_0 x0.2.2.1 (g9_0 x0.1 x1))) < 0) = false, P13 x0.2.2.2.2.2.2.2.2.1 (g12_0 x0.2.2.2.2.2.2.1 (g11_0 x0.2.2.2.1 (g10_0 x0.2.2.1 (g9_0 x0.1 x1)))), decide (g13_0 x0.2.2.2.2.2.2.2.2.1 (g12_0 x0.2.2.2.2.2.2.1 (g11_0 x0.2.2.2.1 (g10_0 x0.2.2.1 (g9_0 x0.1 x1)))) < 0) = true]) := by kernel_rfl
theorem p4_5 (x0 : TyA0) (x1 : Int) : runF tab ext4 false 54 [] 2000 [] oks4 kds4 tys4 Tryz.f4.results [false, false, false, false, false, true] [.code b4] (entE 0 0 sig4 (x0, x1, ())) (entL sig4 (x0, x1, ())) = some ([Dyn.mk (Ty.int .i64) (-1)], [], [P9 x0.1 x1, decide (g9_0 x0.1 x1 < 0) = false, P10 x0.2.2.1 (g9_0 x0.1 x1), decide (g10_0 x0.2.2.1 (g9_0 x0.1 x1) < 0) = false, P11 x0.2.2.2.1 (g10_0 x0.2.2.1 (g9_0 x0.1 x1)), decide (g11_0 x0.2.2.2.1 (g10_0 x0.2.2.1 (g9_0 x0.1 x1)) < 0) = false, P12 x0.2.2.2.2.2.2.1 (g11_0 x0.2.2.2.1 (g10_0 x0.2.2.1 (g9_0 x0.1 x1))), decide (g12_0 x0.2.2.2.2.2.2.1 (g11_0 x0.2.2.2.1 (g10_0 x0.2.2.1 (g9_0 x0.1 x1))) < 0) = false, P13 x0.2.2.2.2.2.2.2.2.1 (g12_0 x0.2.2.2.2.2.2.1 (g11_0 x0.2.2.2.1 (g10_0 x0.2.2.1 (g9_0 x0.1 x1)))), decide (g13_0 x0.2.2.2.2.2.2.2.2.1 (g12_0 x0.2.2.2.2.2.2.1 (g11_0 x0.2.2.2.1 (g10_0 x0.2.2.1 (g9_0 x0.1 x1)))) < 0) = false, P14 x0.2.2.2.2.2.2.2.2.2.1 (g13_0 x0.2.2.2.2.2.2.2.2.1 (g12_0 x0.2.2.2.2.2.2.1 (g11_0 x0.2.2.2.1 (g10_0 x0.2.2.1 (g9_0 x0.1 x1))))), decide (g14_0 x0.2.2.2.2.2.2.2.2.2.1 (g13_0 x0.2.2.2.2.2.2.2.2.1 (g12_0 x0.2.2.2.2.2.2.1 (g11_0 x0.2.2.2.1 (g10_0 x0.2.2.1 (g9_0 x0.1 x1))))) < 0) = true]) := by kernel_rfl
theorem p4_6 (x0 : TyA0) (x1 : Int) : runF tab ext4 false 54 [] 2000 [] oks4 kds4 tys4 Tryz.f4.results [false, false, false, false, false, false, true] [.code b4] (entE 0 0 sig4 (x0, x1, ())) (entL sig4 (x0, x1, ())) = some ([Dyn.mk (Ty.int .i64) (-1)], [], [P9 x0.1 x1, decide (g9_0 x0.1 x1 < 0) = false, P10 x0.2.2.1 (g9_0 x0.1 x1), decide (g10_0 x0.2.2.1 (g9_0 x0.1 x1) < 0) = false, P11 x0.2.2.2.1 (g10_0 x0.2.2.1 (g9_0 x0.1 x1)), decide (g11_0 x0.2.2.2.1 (g10_0 x0.2.2.1 (g9_0 x0.1 x1)) < 0) = false, P12 x0.2.2.2.2.2.2.1 (g11_0 x0.2.2.2.1 (g10_0 x0.2.2.1 (g9_0 x0.1 x1))), decide (g12_0 x0.2.2.2.2.2.2.1 (g11_0 x0.2.2.2.1 (g10_0 x0.2.2.1 (g9_0 x0.1 x1))) < 0) = false, P13 x0.2.2.2.2.2.2.2.2.1 (g12_0 x0.2.2.2.2.2.2.1 (g11_0 x0.2.2.2.1 (g10_0 x0.2.2.1 (g9_0 x0.1 x1)))), decide (g13_0 x0.2.2.2.2.2.2.2.2.1 (g12_0 x0.2.2.2.2.2.2.1 (g11_0 x0.2.2.2.1 (g10_0 x0.2.2.1 (g9_0 x0.1 x1)))) < 0) = false, P14 x0.2.2.2.2.2.2.2.2.2.1 (g13_0 x0.2.2.2.2.2.2.2.2.1 (g12_0 x0.2.2.2.2.2.2.1 (g11_0 x0.2.2.2.1 (g10_0 x0.2.2.1 (g9_0 x0.1 x1))))), decide (g14_0 x0.2.2.2.2.2.2.2.2.2.1 (g13_0 x0.2.2.2.2.2.2.2.2.1 (g12_0 x0.2.2.2.2.2.2.1 (g11_0 x0.2.2.2.1 (g10_0 x0.2.2.1 (g9_0 x0.1 x1))))) < 0) = false, P15 x0.2.2.2.2.2.2.2.2.2.2.1 (g14_0 x0.2.2.2.2.2.2.2.2.2.1 (g13_0 x0.2.2.2.2.2.2.2.2.1 (g12_0 x0.2.2.2.2.2.2.1 (g11_0 x0.2.2.2.1 (g10_0 x0.2.2.1 (g9_0 x0.1 x1)))))), decide (g15_0 x0.2.2.2.2.2.2.2.2.2.2.1 (g14_0 x0.2.2.2.2.2.2.2.2.2.1 (g13_0 x0.2.2.2.2.2.2.2.2.1 (g12_0 x0.2.2.2.2.2.2.1 (g11_0 x0.2.2.2.1 (g10_0 x0.2.2.1 (g9_0 x0.1 x1)))))) < 0) = true]) := by kernel_rfl
theorem p4_7 (x0 : TyA0) (x1 : Int) : runF tab ext4 false 54 [] 2000 [] oks4 kds4 tys4 Tryz.f4.results [false, false, false, false, false, false, false, true] [.code b4] (entE 0 0 sig4 (x0, x1, ())) (entL sig4 (x0, x1, ())) = some ([Dyn.mk (Ty.int .i64) (-1)], [], [P9 x0.1 x1, decide (g9_0 x0.1 x1 < 0) = false, P10 x0.2.2.1 (g9_0 x0.1 x1), decide (g10_0 x0.2.2.1 (g9_0 x0.1 x1) < 0) = false, P11 x0.2.2.2.1 (g10_0 x0.2.2.1 (g9_0 x0.1 x1)), decide (g11_0 x0.2.2.2.1 (g10_0 x0.2.2.1 (g9_0 x0.1 x1)) < 0) = false, P12 x0.2.2.2.2.2.2.1 (g11_0 x0.2.2.2.1 (g10_0 x0.2.2.1 (g9_0 x0.1 x1))), decide (g12_0 x0.2.2.2.2.2.2.1 (g11_0 x0.2.2.2.1 (g10_0 x0.2.2.1 (g9_0 x0.1 x1))) < 0) = false, P13 x0.2.2.2.2.2.2.2.2.1 (g12_0 x0.2.2.2.2.2.2.1 (g11_0 x0.2.2.2.1 (g10_0 x0.2.2.1 (g9_0 x0.1 x1)))), decide (g13_0 x0.2.2.2.2.2.2.2.2.1 (g12_0 x0.2.2.2.2.2.2.1 (g11_0 x0.2.2.2.1 (g10_0 x0.2.2.1 (g9_0 x0.1 x1)))) < 0) = false, P14 x0.2.2.2.2.2.2.2.2.2.1 (g13_0 x0.2.2.2.2.2.2.2.2.1 (g12_0 x0.2.2.2.2.2.2.1 (g11_0 x0.2.2.2.1 (g10_0 x0.2.2.1 (g9_0 x0.1 x1))))), decide (g14_0 x0.2.2.2.2.2.2.2.2.2.1 (g13_0 x0.2.2.2.2.2.2.2.2.1 (g12_0 x0.2.2.2.2.2.2.1 (g11_0 x0.2.2.2.1 (g10_0 x0.2.2.1 (g9_0 x0.1 x1))))) < 0) = false, P15 x0.2.2.2.2.2.2.2.2.2.2.1 (g14_0 x0.2.2.2.2.2.2.2.2.2.1 (g13_0 x0.2.2.2.2.2.2.2.2.1 (g12_0 x0.2.2.2.2.2.2.1 (g11_0 x0.2.2.2.1 (g10_0 x0.2.2.1 (g9_0 x0.1 x1)))))), decide (g15_0 x0.2.2.2.2.2.2.2.2.2.2.1 (g14_0 x0.2.2.2.2.2.2.2.2.2.1 (g13_0 x0.2.2.2.2.2.2.2.2.1 (g12_0 x0.2.2.2.2.2.2.1 (g11_0 x0.2.2.2.1 (g10_0 x0.2.2.1 (g9_0 x0.1 x1)))))) < 0) = false, P16 x0.2.2.2.2.2.2.2.2.2.2.2.1 (g15_0 x0.2.2.2.2.2.2.2.2.2.2.1 (g14_0 x0.2.2.2.2.2.2.2.2.2.1 (g13_0 x0.2.2.2.2.2.2.2.2.1 (g12_0 x0.2.2.2.2.2.2.1 (g11_0 x0.2.2.2.1 (g10_0 x0.2.2.1 (g9_0 x0.1 x1))))))), decide (g16_0 x0.2.2.2.2.2.2.2.2.2.2.2.1 (g15_0 x0.2.2.2.2.2.2.2.2.2.2.1 (g14_0 x0.2.2.2.2.2.2.2.2.2.1 (g13_0 x0.2.2.2.2.2.2.2.2.1 (g12_0 x0.2.2.2.2.2.2.1 (g11_0 x0.2.2.2.1 (g10_0 x0.2.2.1 (g9_0 x0.1 x1))))))) < 0) = true]) := by kernel_rfl
theorem p4_8 (x0 : TyA0) (x1 : Int) : runF tab ext4 false 54 [] 2000 [] oks4 kds4 tys4 Tryz.f4.results [false, false, false, false, false, false, false, false] [.code b4] (entE 0 0 sig4 (x0, x1, ())) (entL sig4 (x0, x1, ())) = some ([Dyn.mk (Ty.int .i64) (g16_0 x0.2.2.2.2.2.2.2.2.2.2.2.1 (g15_0 x0.2.2.2.2.2.2.2.2.2.2.1 (g14_0 x0.2.2.2.2.2.2.2.2.2.1 (g13_0 x0.2.2.2.2.2.2.2.2.1 (g12_0 x0.2.2.2.2.2.2.1 (g11_0 x0.2.2.2.1 (g10_0 x0.2.2.1 (g9_0 x0.1 x1))))))))], [], [P9 x0.1 x1, decide (g9_0 x0.1 x1 < 0) = false, P10 x0.2.2.1 (g9_0 x0.1 x1), decide (g10_0 x0.2.2.1 (g9_0 x0.1 x1) < 0) = false, P11 x0.2.2.2.1 (g10_0 x0.2.2.1 (g9_0 x0.1 x1)), decide (g11_0 x0.2.2.2.1 (g10_0 x0.2.2.1 (g9_0 x0.1 x1)) < 0) = false, P12 x0.2.2.2.2.2.2.1 (g11_0 x0.2.2.2.1 (g10_0 x0.2.2.1 (g9_0 x0.1 x1))), decide (g12_0 x0.2.2.2.2.2.2.1 (g11_0 x0.2.2.2.1 (g10_0 x0.2.2.1 (g9_0 x0.1 x1))) < 0) = false, P13 x0.2.2.2.2.2.2.2.2.1 (g12_0 x0.2.2.2.2.2.2.1 (g11_0 x0.2.2.2.1 (g10_0 x0.2.2.1 (g9_0 x0.1 x1)))), decide (g13_0 x0.2.2.2.2.2.2.2.2.1 (g12_0 x0.2.2.2.2.2.2.1 (g11_0 x0.2.2.2.1 (g10_0 x0.2.2.1 (g9_0 x0.1 x1)))) < 0) = false, P14 x0.2.2.2.2.2.2.2.2.2.1 (g13_0 x0.2.2.2.2.2.2.2.2.1 (g12_0 x0.2.2.2.2.2.2.1 (g11_0 x0.2.2.2.1 (g10_0 x0.2.2.1 (g9_0 x0.1 x1))))), decide (g14_0 x0.2.2.2.2.2.2.2.2.2.1 (g13_0 x0.2.2.2.2.2.2.2.2.1 (g12_0 x0.2.2.2.2.2.2.1 (g11_0 x0.2.2.2.1 (g10_0 x0.2.2.1 (g9_0 x0.1 x1))))) < 0) = false, P15 x0.2.2.2.2.2.2.2.2.2.2.1 (g14_0 x0.2.2.2.2.2.2.2.2.2.1 (g13_0 x0.2.2.2.2.2.2.2.2.1 (g12_0 x0.2.2.2.2.2.2.1 (g11_0 x0.2.2.2.1 (g10_0 x0.2.2.1 (g9_0 x0.1 x1)))))), decide (g15_0 x0.2.2.2.2.2.2.2.2.2.2.1 (g14_0 x0.2.2.2.2.2.2.2.2.2.1 (g13_0 x0.2.2.2.2.2.2.2.2.1 (g12_0 x0.2.2.2.2.2.2.1 (g11_0 x0.2.2.2.1 (g10_0 x0.2.2.1 (g9_0 x0.1 x1)))))) < 0) = false, P16 x0.2.2.2.2.2.2.2.2.2.2.2.1 (g15_0 x0.2.2.2.2.2.2.2.2.2.2.1 (g14_0 x0.2.2.2.2.2.2.2.2.2.1 (g13_0 x0.2.2.2.2.2.2.2.2.1 (g12_0 x0.2.2.2.2.2.2.1 (g11_0 x0.2.2.2.1 (g10_0 x0.2.2.1 (g9_0 x0.1 x1))))))), decide (g16_0 x0.2.2.2.2.2.2.2.2.2.2.2.1 (g15_0 x0.2.2.2.2.2.2.2.2.2.2.1 (g14_0 x0.2.2.2.2.2.2.2.2.2.1 (g13_0 x0.2.2.2.2.2.2.2.2.1 (g12_0 x0.2.2.2.2.2.2.1 (g11_0 x0.2.2.2.1 (g10_0 x0.2.2.1 (g9_0 x0.1 x1))))))) < 0) = false]) := by kernel_rfl
theorem at4 (x0 : TyA0) (x1 : Int) (h : P4 x0 x1) (K : Ctx) (q : Nat → Value) : AtV Tryz.prog 4 (PostR kds4 oks4 [⟨Ty.int .i64, g4_0 x0 x1⟩] [] [] q K) 54 K q [] [.code b4] (entE 0 0 sig4 (x0, x1, ())) (entL sig4 (x0, x1, ())) := by
  unfold P4 at h
  unfold g4_0
  obtain ⟨s0, h⟩ := h
  by_cases b0 : (decide (g9_0 x0.1 x1 < 0)) = true
  · try simp only [if_pos b0] at h ⊢
    exact AtV.fin Tryz.func4 tabOk ext4Ok mixed (p4_0 x0 x1) ⟨s0, b0, trivial⟩
  · try simp only [if_neg b0] at h ⊢
    replace b0 := Bool.eq_false_iff.2 b0
    obtain ⟨s1, h⟩ := h
    by_cases b1 : (decide (g10_0 x0.2.2.1 (g9_0 x0.1 x1) < 0)) = true
    · try simp only [if_pos b1] at h ⊢
      exact AtV.fin Tryz.func4 tabOk ext4Ok mixed (p4_1 x0 x1) ⟨s0, b0, s1, b1, trivial⟩
    · try simp only [if_neg b1] at h ⊢
      replace b1 := Bool.eq_false_iff.2 b1
      obtain ⟨s2, h⟩ := h
      by_cases b2 : (decide (g11_0 x0.2.2.2.1 (g10_0 x0.2.2.1 (g9_0 x0.1 x1)) < 0)) = true
      · try simp only [if_pos b2] at h ⊢
        exact AtV.fin Tryz.func4 tabOk ext4Ok mixed (p4_2 x0 x1) ⟨s0, b0, s1, b1, s2, b2, trivial⟩
      · try simp only [if_neg b2] at h ⊢
        replace b2 := Bool.eq_false_iff.2 b2
        obtain ⟨s3, h⟩ := h
        by_cases b3 : (decide (g12_0 x0.2.2.2.2.2.2.1 (g11_0 x0.2.2.2.1 (g10_0 x0.2.2.1 (g9_0 x0.1 x1))) < 0)) = true
        · try simp only [if_pos b3] at h ⊢
          exact AtV.fin Tryz.func4 tabOk ext4Ok mixed (p4_3 x0 x1) ⟨s0, b0, s1, b1, s2, b2, s3, b3, trivial⟩
        · try simp only [if_neg b3] at h ⊢
          replace b3 := Bool.eq_false_iff.2 b3
          obtain ⟨s4, h⟩ := h
          by_cases b4 : (decide (g13_0 x0.2.2.2.2.2.2.2.2.1 (g12_0 x0.2.2.2.2.2.2.1 (g11_0 x0.2.2.2.1 (g10_0 x0.2.2.1 (g9_0 x0.1 x1)))) < 0)) = true
          · try simp only [if_pos b4] at h ⊢
            exact AtV.fin Tryz.func4 tabOk ext4Ok mixed (p4_4 x0 x1) ⟨s0, b0, s1, b1, s2, b2, s3, b3, s4, b4, trivial⟩
          · try simp only [if_neg b4] at h ⊢
            replace b4 := Bool.eq_false_iff.2 b4
            obtain ⟨s5, h⟩ := h
            by_cases b5 : (decide (g14_0 x0.2.2.2.2.2.2.2.2.2.1 (g13_0 x0.2.2.2.2.2.2.2.2.1 (g12_0 x0.2.2.2.2.2.2.1 (g11_0 x0.2.2.2.1 (g10_0 x0.2.2.1 (g9_0 x0.1 x1))))) < 0)) = true
            · try simp only [if_pos b5] at h ⊢
              exact AtV.fin Tryz.func4 tabOk ext4Ok mixed (p4_5 x0 x1) ⟨s0, b0, s1, b1, s2, b2, s3, b3, s4, b4, s5, b5, trivial⟩
            · try simp only [if_neg b5] at h ⊢
              replace b5 := Bool.eq_false_iff.2 b5
              obtain ⟨s6, h⟩ := h
              by_cases b6 : (decide (g15_0 x0.2.2.2.2.2.2.2.2.2.2.1 (g14_0 x0.2.2.2.2.2.2.2.2.2.1 (g13_0 x0.2.2.2.2.2.2.2.2.1 (g12_0 x0.2.2.2.2.2.2.1 (g11_0 x0.2.2.2.1 (g10_0 x0.2.2.1 (g9_0 x0.1 x1)))))) < 0)) = true
              · try simp only [if_pos b6] at h ⊢
                exact AtV.fin Tryz.func4 tabOk ext4Ok mixed (p4_6 x0 x1) ⟨s0, b0, s1, b1, s2, b2, s3, b3, s4, b4, s5, b5, s6, b6, trivial⟩
              · try simp only [if_neg b6] at h ⊢
                replace b6 := Bool.eq_false_iff.2 b6
                obtain ⟨s7, h⟩ := h
                by_cases b7 : (decide (g16_0 x0.2.2.2.2.2.2.2.2.2.2.2.1 (g15_0 x0.2.2.2.2.2.2.2.2.2.2.1 (g14_0 x0.2.2.2.2.2.2.2.2.2.1 (g13_0 x0.2.2.2.2.2.2.2.2.1 (g12_0 x0.2.2.2.2.2.2.1 (g11_0 x0.2.2.2.1 (g10_0 x0.2.2.1 (g9_0 x0.1 x1))))))) < 0)) = true
                · try simp only [if_pos b7] at h ⊢
                  exact AtV.fin Tryz.func4 tabOk ext4Ok mixed (p4_7 x0 x1) ⟨s0, b0, s1, b1, s2, b2, s3, b3, s4, b4, s5, b5, s6, b6, s7, b7, trivial⟩
                · try simp only [if_neg b7] at h ⊢
                  replace b7 := Bool.eq_false_iff.2 b7
                  exact AtV.fin Tryz.func4 tabOk ext4Ok mixed (p4_8 x0 x1) ⟨s0, b0, s1, b1, s2, b2, s3, b3, s4, b4, s5, b5, s6, b6, s7, b7, trivial⟩

def S4 : Am.Spec := { sig := sig4, pre := fun ⟨x0, x1, _⟩ => P4 x0 x1, res := fun ⟨x0, x1, _⟩ => [⟨Ty.int .i64, g4_0 x0 x1⟩], kds := kds4 }
theorem con4 : Contract Tryz.prog 4 S4 := contract_of Tryz.func4 hb4 (Nat.le_of_ble_eq_true (by kernel_rfl)) (fun ⟨x0, x1, _⟩ h _ K q => at4 x0 x1 h K q)


end
end Go.Proofs.YtcakiedjgnhjcaaGreat

/- Function 71 (laws.toBend): its runs between cut points. Written by a program of this repo (gen). -/
set_option linter.unusedVariables false
set_option linter.unusedSimpArgs false
set_option maxRecDepth 100000
namespace Go.Proofs.YtcakiedjgnhjcaaGreat
open Go Go.Am Go.Proofs
noncomputable section
def ext71 : Ext := []
theorem ext71Ok : ExtOk Tryz.prog ext71 := trivial

noncomputable def b71 : Code := bodyOf Tryz.f71
theorem hb71 : Tryz.f71.body = some b71 := by kernel_rfl
def sig71 : List AT := [AT.v (Ty.cons Ty.str (Ty.cons (Ty.int .i64) (Ty.cons (Ty.int .i64) (Ty.cons (Ty.int .i64) Ty.unit))))]
def tys71 : List Ty := [Ty.cons Ty.str (Ty.cons (Ty.int .i64) (Ty.cons (Ty.int .i64) (Ty.cons (Ty.int .i64) Ty.unit)))]
def kds71 : List RK := []
def oks71 : List AT := owns sig71
def P71 (x0 : ByteArray × Int × Int × Int × Unit) : Prop := True
def g71_0 (x0 : ByteArray × Int × Int × Int × Unit) : ByteArray × Int × Int × Int × Unit := (x0.1, x0.2.1, x0.2.2.1, x0.2.2.2.1, ())
theorem p71_0 (x0 : ByteArray × Int × Int × Int × Unit) : runF tab ext71 false 17 [] 2000 [] oks71 kds71 tys71 Tryz.f71.results [] [.code b71] (entE 0 0 sig71 (x0, ())) (entL sig71 (x0, ())) = some ([Dyn.mk (Ty.cons Ty.str (Ty.cons (Ty.int .i64) (Ty.cons (Ty.int .i64) (Ty.cons (Ty.int .i64) Ty.unit)))) (x0.1, x0.2.1, x0.2.2.1, x0.2.2.2.1, ())], [], []) := by kernel_rfl
theorem at71 (x0 : ByteArray × Int × Int × Int × Unit) (h : P71 x0) (K : Ctx) (q : Nat → Value) : AtV Tryz.prog 71 (PostR kds71 oks71 [⟨Ty.cons Ty.str (Ty.cons (Ty.int .i64) (Ty.cons (Ty.int .i64) (Ty.cons (Ty.int .i64) Ty.unit))), g71_0 x0⟩] [] [] q K) 17 K q [] [.code b71] (entE 0 0 sig71 (x0, ())) (entL sig71 (x0, ())) := by
  unfold P71 at h
  unfold g71_0
  exact AtV.fin Tryz.func71 tabOk ext71Ok mixed (p71_0 x0) trivial

def S71 : Am.Spec := { sig := sig71, pre := fun ⟨x0, _⟩ => P71 x0, res := fun ⟨x0, _⟩ => [⟨Ty.cons Ty.str (Ty.cons (Ty.int .i64) (Ty.cons (Ty.int .i64) (Ty.cons (Ty.int .i64) Ty.unit))), g71_0 x0⟩], kds := kds71 }
theorem con71 : Contract Tryz.prog 71 S71 := contract_of Tryz.func71 hb71 (Nat.le_of_ble_eq_true (by kernel_rfl)) (fun ⟨x0, _⟩ h _ K q => at71 x0 h K q)


end
end Go.Proofs.YtcakiedjgnhjcaaGreat

/- Function 18 (laws.toBendS): its runs between cut points. Written by a program of this repo (gen). -/
set_option linter.unusedVariables false
set_option linter.unusedSimpArgs false
set_option maxRecDepth 100000
namespace Go.Proofs.YtcakiedjgnhjcaaGreat
open Go Go.Am Go.Proofs
noncomputable section
def ext18 : Ext := [(71, S71)]
theorem call18_71 : Callable Tryz.prog 71 := ⟨Tryz.f71, Tryz.func71, by kernel_rfl, by kernel_rfl⟩
theorem ext18Ok : ExtOk Tryz.prog ext18 := ⟨⟨call18_71, con71⟩, trivial⟩

noncomputable def b18 : Code := bodyOf Tryz.f18
theorem hb18 : Tryz.f18.body = some b18 := by kernel_rfl
def sig18 : List AT := [AT.v (Ty.sl (Ty.cons Ty.str (Ty.cons (Ty.int .i64) (Ty.cons (Ty.int .i64) (Ty.cons (Ty.int .i64) Ty.unit)))))]
def tys18 : List Ty := [Ty.sl (Ty.cons Ty.str (Ty.cons (Ty.int .i64) (Ty.cons (Ty.int .i64) (Ty.cons (Ty.int .i64) Ty.unit))))]
def kds18 : List RK := []
def oks18 : List AT := owns sig18
def E18_3 (v4 : Int) (h0 : List TyB0) (x0 : List TyB0) : Env := [(0, PV.a (Atom.sl (Ty.cons Ty.str (Ty.cons (Ty.int .i64) (Ty.cons (Ty.int .i64) (Ty.cons (Ty.int .i64) Ty.unit)))) x0)), (3, PV.a (Atom.osl 0 Option.none)), (4, PV.a (Atom.val (Value.int .i64 v4)))]
def L18_3 (v4 : Int) (h0 : List TyB0) (x0 : List TyB0) : Heap := [Option.some (Arr.mk (Ty.cons Ty.str (Ty.cons (Ty.int .i64) (Ty.cons (Ty.int .i64) (Ty.cons (Ty.int .i64) Ty.unit)))) h0 false Option.none Option.none)]
mutual
def R18 : Nat → List TyB0 → List Dyn → Prop
  | 0, _, _ => False
  | n + 1, x0, ds => ((0 ≤ (↑(List.length x0) : Int)) ∧ ((↑(List.length x0) : Int) ≤ (↑(List.length x0) : Int)) ∧ (40 * (↑(List.length x0) : Int) ≤ 281474976710656) ∧ (R18_3 n (0) (List.replicate (Int.toNat (↑(List.length x0) : Int)) (ByteArray.empty, 0, 0, 0, ())) (x0) ds))
def R18_3 : Nat → Int → List TyB0 → List TyB0 → List Dyn → Prop
  | 0, _, _, _, _ => False
  | n + 1, v4, h0, x0, ds => (if (decide (v4 < (↑(List.length x0) : Int))) = true then ((0 ≤ v4) ∧ (v4 < (↑(List.length x0) : Int)) ∧ ((0 ≤ v4) ∧ (v4 < (↑(List.length h0) : Int)) ∧ ((InR .i64 (v4 + 1)) ∧ (R18_3 n (v4 + 1) (List.set h0 (Int.toNat v4) ((List.getD x0 (Int.toNat v4) (ByteArray.empty, 0, 0, 0, ())).1, (List.getD x0 (Int.toNat v4) (ByteArray.empty, 0, 0, 0, ())).2.1, (List.getD x0 (Int.toNat v4) (ByteArray.empty, 0, 0, 0, ())).2.2.1, (List.getD x0 (Int.toNat v4) (ByteArray.empty, 0, 0, 0, ())).2.2.2.1, ())) (x0) ds)))) else (ds = [Dyn.mk (Ty.sl (Ty.cons Ty.str (Ty.cons (Ty.int .i64) (Ty.cons (Ty.int .i64) (Ty.cons (Ty.int .i64) Ty.unit))))) h0]))
end
theorem p18_0 (x0 : List TyB0) : Am.runN tab ext18 false 23 [] 2000 [] [] [0, 3, 4] [0] [] [.code b18] (entE 0 0 sig18 (x0, ())) (entL sig18 (x0, ())) = some (cutAt b18 3, E18_3 (0) (List.replicate (Int.toNat (↑(List.length x0) : Int)) (ByteArray.empty, 0, 0, 0, ())) (x0), L18_3 (0) (List.replicate (Int.toNat (↑(List.length x0) : Int)) (ByteArray.empty, 0, 0, 0, ())) (x0), [0 ≤ (↑(List.length x0) : Int), (↑(List.length x0) : Int) ≤ (↑(List.length x0) : Int), 40 * (↑(List.length x0) : Int) ≤ 281474976710656]) := by kernel_rfl
theorem p18_1 (v4 : Int) (h0 : List TyB0) (x0 : List TyB0) : Am.runN tab ext18 false 23 [] 2000 [] [] [0, 3, 4] [0] [true] (cutAt b18 3) (E18_3 v4 h0 x0) (L18_3 v4 h0 x0) = some (cutAt b18 3, E18_3 (v4 + 1) (List.set h0 (Int.toNat v4) ((List.getD x0 (Int.toNat v4) (ByteArray.empty, 0, 0, 0, ())).1, (List.getD x0 (Int.toNat v4) (ByteArray.empty, 0, 0, 0, ())).2.1, (List.getD x0 (Int.toNat v4) (ByteArray.empty, 0, 0, 0, ())).2.2.1, (List.getD x0 (Int.toNat v4) (ByteArray.empty, 0, 0, 0, ())).2.2.2.1, ())) (x0), L18_3 (v4 + 1) (List.set h0 (Int.toNat v4) ((List.getD x0 (Int.toNat v4) (ByteArray.empty, 0, 0, 0, ())).1, (List.getD x0 (Int.toNat v4) (ByteArray.empty, 0, 0, 0, ())).2.1, (List.getD x0 (Int.toNat v4) (ByteArray.empty, 0, 0, 0, ())).2.2.1, (List.getD x0 (Int.toNat v4) (ByteArray.empty, 0, 0, 0, ())).2.2.2.1, ())) (x0), [decide (v4 < (↑(List.length x0) : Int)) = true, 0 ≤ v4, v4 < (↑(List.length x0) : Int), True, 0 ≤ v4, v4 < (↑(List.length h0) : Int), InR .i64 (v4 + 1)]) := by kernel_rfl
theorem p18_2 (v4 : Int) (h0 : List TyB0) (x0 : List TyB0) : runF tab ext18 false 23 [] 2000 [] oks18 kds18 tys18 Tryz.f18.results [false] (cutAt b18 3) (E18_3 v4 h0 x0) (L18_3 v4 h0 x0) = some ([Dyn.mk (Ty.sl (Ty.cons Ty.str (Ty.cons (Ty.int .i64) (Ty.cons (Ty.int .i64) (Ty.cons (Ty.int .i64) Ty.unit))))) h0], [], [decide (v4 < (↑(List.length x0) : Int)) = false]) := by kernel_rfl
theorem snd18 : ∀ n, (∀ (x0 : List TyB0) ds, R18 n x0 ds → ∀ K q, AtV Tryz.prog 18 (PostR kds18 oks18 ds [] [] q K) 23 K q [] [.code b18] (entE 0 0 sig18 (x0, ())) (entL sig18 (x0, ()))) ∧ (∀ (v4 : Int) (h0 : List TyB0) (x0 : List TyB0) ds, R18_3 n v4 h0 x0 ds → ∀ K q, AtV Tryz.prog 18 (PostR kds18 oks18 ds [] [] q K) 23 K q [] (cutAt b18 3) (E18_3 v4 h0 x0) (L18_3 v4 h0 x0)) := by
  intro n
  induction n with
  | zero => exact ⟨fun _ _ h => by simp only [R18] at h, fun _ _ _ _ h => by simp only [R18_3] at h⟩
  | succ n ih =>
  obtain ⟨ih, ih3⟩ := ih
  refine ⟨?_, ?_⟩
  · intro x0 ds h K q
    rw [R18] at h
    obtain ⟨s0, s1, s2, h⟩ := h
    exact AtV.runN tabOk ext18Ok mixed (p18_0 x0) ⟨s0, s1, s2, trivial⟩ (ih3 _ _ _ _ h K q)

  · intro v4 h0 x0 ds h K q
    rw [R18_3] at h
    by_cases b0 : (decide (v4 < (↑(List.length x0) : Int))) = true
    · rw [if_pos b0] at h
      obtain ⟨s0, s1, h⟩ := h
      obtain ⟨s2, s3, h⟩ := h
      obtain ⟨s4, h⟩ := h
      exact AtV.runN tabOk ext18Ok mixed (p18_1 v4 h0 x0) ⟨b0, s0, s1, trivial, s2, s3, s4, trivial⟩ (ih3 _ _ _ _ h K q)
    · rw [if_neg b0] at h
      replace b0 := Bool.eq_false_iff.2 b0
      subst h
      exact AtV.fin Tryz.func18 tabOk ext18Ok mixed (p18_2 v4 h0 x0) ⟨b0, trivial⟩



theorem run18 (x0 : List TyB0) (hm : x0.length ≤ maxLen) : ∀ (k i : Nat), i + k = x0.length →
    R18_3 (k + 1) (i : Int) (x0.take i ++ List.replicate k (ByteArray.empty, (0 : Int), (0 : Int), (0 : Int), ())) x0 [⟨.sl (.cons .str (.cons (.int .i64) (.cons (.int .i64) (.cons (.int .i64) .unit)))), x0⟩] := by
  intro k
  induction k with
  | zero =>
    intro i hi
    rw [R18_3, if_neg (by simp; omega), List.take_of_length_le (by omega)]
    simp
  | succ k ih =>
    intro i hi
    rw [R18_3, if_pos (by simp; omega)]
    simp only [Int.toNat_natCast]
    refine ⟨by omega, by omega, by omega, by simp; omega, inR_up hm (by omega), ?_⟩
    have hs := set_step x0 (ByteArray.empty, (0 : Int), (0 : Int), (0 : Int), ()) i (by omega) (k + 1) (by omega)
    have he : ∀ y : TyB0, (y.1, y.2.1, y.2.2.1, y.2.2.2.1, ()) = y := fun _ => rfl
    rw [he, hs]
    exact ih (i + 1) (by omega)

def g18_0 (x0 : List TyB0) : List TyB0 := x0
def P18 (x0 : List TyB0) : Prop := 40 * (x0.length : Int) ≤ 281474976710656
def S18 : Am.Spec := { sig := sig18, pre := fun ⟨x0, _⟩ => P18 x0, res := fun ⟨x0, _⟩ => [⟨.sl (.cons .str (.cons (.int .i64) (.cons (.int .i64) (.cons (.int .i64) .unit)))), g18_0 x0⟩] }
theorem con18 : Contract Tryz.prog 18 S18 := contract_of Tryz.func18 hb18 (Nat.le_of_ble_eq_true (by kernel_rfl)) (fun ⟨x0, _⟩ h hwf K q => by
  refine (snd18 (x0.length + 2)).1 x0 _ ?_ K q
  show R18 (x0.length + 1 + 1) x0 [⟨.sl (.cons .str (.cons (.int .i64) (.cons (.int .i64) (.cons (.int .i64) .unit)))), x0⟩]
  rw [R18]
  refine ⟨by omega, by omega, h, ?_⟩
  have := run18 x0 hwf.1.1 x0.length 0 (by omega)
  simpa using this)

end
end Go.Proofs.YtcakiedjgnhjcaaGreat

/- Function 19 (laws.toRope): its runs between cut points. Written by a program of this repo (gen). -/
set_option linter.unusedVariables false
set_option linter.unusedSimpArgs false
set_option maxRecDepth 100000
namespace Go.Proofs.YtcakiedjgnhjcaaGreat
open Go Go.Am Go.Proofs
noncomputable section
def ext19 : Ext := []
theorem ext19Ok : ExtOk Tryz.prog ext19 := trivial

noncomputable def b19 : Code := bodyOf Tryz.f19
theorem hb19 : Tryz.f19.body = some b19 := by kernel_rfl
def sig19 : List AT := [AT.v (Ty.cons (Ty.int .i64) (Ty.cons (Ty.int .i64) (Ty.cons (Ty.int .i64) (Ty.cons (Ty.int .i64) Ty.unit))))]
def tys19 : List Ty := [Ty.cons (Ty.int .i64) (Ty.cons (Ty.int .i64) (Ty.cons (Ty.int .i64) (Ty.cons (Ty.int .i64) Ty.unit)))]
def kds19 : List RK := []
def oks19 : List AT := owns sig19
def P19 (x0 : Int × Int × Int × Int × Unit) : Prop := True
def g19_0 (x0 : Int × Int × Int × Int × Unit) : Int × Int × Int × Int × Unit := (x0.1, x0.2.1, x0.2.2.1, x0.2.2.2.1, ())
theorem p19_0 (x0 : Int × Int × Int × Int × Unit) : runF tab ext19 false 17 [] 2000 [] oks19 kds19 tys19 Tryz.f19.results [] [.code b19] (entE 0 0 sig19 (x0, ())) (entL sig19 (x0, ())) = some ([Dyn.mk (Ty.cons (Ty.int .i64) (Ty.cons (Ty.int .i64) (Ty.cons (Ty.int .i64) (Ty.cons (Ty.int .i64) Ty.unit)))) (x0.1, x0.2.1, x0.2.2.1, x0.2.2.2.1, ())], [], []) := by kernel_rfl
theorem at19 (x0 : Int × Int × Int × Int × Unit) (h : P19 x0) (K : Ctx) (q : Nat → Value) : AtV Tryz.prog 19 (PostR kds19 oks19 [⟨Ty.cons (Ty.int .i64) (Ty.cons (Ty.int .i64) (Ty.cons (Ty.int .i64) (Ty.cons (Ty.int .i64) Ty.unit))), g19_0 x0⟩] [] [] q K) 17 K q [] [.code b19] (entE 0 0 sig19 (x0, ())) (entL sig19 (x0, ())) := by
  unfold P19 at h
  unfold g19_0
  exact AtV.fin Tryz.func19 tabOk ext19Ok mixed (p19_0 x0) trivial

def S19 : Am.Spec := { sig := sig19, pre := fun ⟨x0, _⟩ => P19 x0, res := fun ⟨x0, _⟩ => [⟨Ty.cons (Ty.int .i64) (Ty.cons (Ty.int .i64) (Ty.cons (Ty.int .i64) (Ty.cons (Ty.int .i64) Ty.unit))), g19_0 x0⟩], kds := kds19 }
theorem con19 : Contract Tryz.prog 19 S19 := contract_of Tryz.func19 hb19 (Nat.le_of_ble_eq_true (by kernel_rfl)) (fun ⟨x0, _⟩ h _ K q => at19 x0 h K q)


end
end Go.Proofs.YtcakiedjgnhjcaaGreat

/- Function 72 (laws.toHour): its runs between cut points. Written by a program of this repo (gen). -/
set_option linter.unusedVariables false
set_option linter.unusedSimpArgs false
set_option maxRecDepth 100000
namespace Go.Proofs.YtcakiedjgnhjcaaGreat
open Go Go.Am Go.Proofs
noncomputable section
def ext72 : Ext := []
theorem ext72Ok : ExtOk Tryz.prog ext72 := trivial

noncomputable def b72 : Code := bodyOf Tryz.f72
theorem hb72 : Tryz.f72.body = some b72 := by kernel_rfl
def sig72 : List AT := [AT.v (Ty.cons (Ty.int .i64) (Ty.cons (Ty.int .i64) (Ty.cons (Ty.int .i64) Ty.unit)))]
def tys72 : List Ty := [Ty.cons (Ty.int .i64) (Ty.cons (Ty.int .i64) (Ty.cons (Ty.int .i64) Ty.unit))]
def kds72 : List RK := []
def oks72 : List AT := owns sig72
def P72 (x0 : Int × Int × Int × Unit) : Prop := True
def g72_0 (x0 : Int × Int × Int × Unit) : Int × Int × Int × Unit := (x0.1, x0.2.1, x0.2.2.1, ())
theorem p72_0 (x0 : Int × Int × Int × Unit) : runF tab ext72 false 14 [] 2000 [] oks72 kds72 tys72 Tryz.f72.results [] [.code b72] (entE 0 0 sig72 (x0, ())) (entL sig72 (x0, ())) = some ([Dyn.mk (Ty.cons (Ty.int .i64) (Ty.cons (Ty.int .i64) (Ty.cons (Ty.int .i64) Ty.unit))) (x0.1, x0.2.1, x0.2.2.1, ())], [], []) := by kernel_rfl
theorem at72 (x0 : Int × Int × Int × Unit) (h : P72 x0) (K : Ctx) (q : Nat → Value) : AtV Tryz.prog 72 (PostR kds72 oks72 [⟨Ty.cons (Ty.int .i64) (Ty.cons (Ty.int .i64) (Ty.cons (Ty.int .i64) Ty.unit)), g72_0 x0⟩] [] [] q K) 14 K q [] [.code b72] (entE 0 0 sig72 (x0, ())) (entL sig72 (x0, ())) := by
  unfold P72 at h
  unfold g72_0
  exact AtV.fin Tryz.func72 tabOk ext72Ok mixed (p72_0 x0) trivial

def S72 : Am.Spec := { sig := sig72, pre := fun ⟨x0, _⟩ => P72 x0, res := fun ⟨x0, _⟩ => [⟨Ty.cons (Ty.int .i64) (Ty.cons (Ty.int .i64) (Ty.cons (Ty.int .i64) Ty.unit)), g72_0 x0⟩], kds := kds72 }
theorem con72 : Contract Tryz.prog 72 S72 := contract_of Tryz.func72 hb72 (Nat.le_of_ble_eq_true (by kernel_rfl)) (fun ⟨x0, _⟩ h _ K q => at72 x0 h K q)


end
end Go.Proofs.YtcakiedjgnhjcaaGreat

/- Function 20 (laws.toHourS): its runs between cut points. Written by a program of this repo (gen). -/
set_option linter.unusedVariables false
set_option linter.unusedSimpArgs false
set_option maxRecDepth 100000
namespace Go.Proofs.YtcakiedjgnhjcaaGreat
open Go Go.Am Go.Proofs
noncomputable section
def ext20 : Ext := [(72, S72)]
theorem call20_72 : Callable Tryz.prog 72 := ⟨Tryz.f72, Tryz.func72, by kernel_rfl, by kernel_rfl⟩
theorem ext20Ok : ExtOk Tryz.prog ext20 := ⟨⟨call20_72, con72⟩, trivial⟩

noncomputable def b20 : Code := bodyOf Tryz.f20
theorem hb20 : Tryz.f20.body = some b20 := by kernel_rfl
def sig20 : List AT := [AT.v (Ty.sl (Ty.cons (Ty.int .i64) (Ty.cons (Ty.int .i64) (Ty.cons (Ty.int .i64) Ty.unit))))]
def tys20 : List Ty := [Ty.sl (Ty.cons (Ty.int .i64) (Ty.cons (Ty.int .i64) (Ty.cons (Ty.int .i64) Ty.unit)))]
def kds20 : List RK := []
def oks20 : List AT := owns sig20
def E20_3 (v4 : Int) (h0 : List TyB2) (x0 : List TyB2) : Env := [(0, PV.a (Atom.sl (Ty.cons (Ty.int .i64) (Ty.cons (Ty.int .i64) (Ty.cons (Ty.int .i64) Ty.unit))) x0)), (3, PV.a (Atom.osl 0 Option.none)), (4, PV.a (Atom.val (Value.int .i64 v4)))]
def L20_3 (v4 : Int) (h0 : List TyB2) (x0 : List TyB2) : Heap := [Option.some (Arr.mk (Ty.cons (Ty.int .i64) (Ty.cons (Ty.int .i64) (Ty.cons (Ty.int .i64) Ty.unit))) h0 false Option.none Option.none)]
mutual
def R20 : Nat → List TyB2 → List Dyn → Prop
  | 0, _, _ => False
  | n + 1, x0, ds => ((0 ≤ (↑(List.length x0) : Int)) ∧ ((↑(List.length x0) : Int) ≤ (↑(List.length x0) : Int)) ∧ (24 * (↑(List.length x0) : Int) ≤ 281474976710656) ∧ (R20_3 n (0) (List.replicate (Int.toNat (↑(List.length x0) : Int)) (0, 0, 0, ())) (x0) ds))
def R20_3 : Nat → Int → List TyB2 → List TyB2 → List Dyn → Prop
  | 0, _, _, _, _ => False
  | n + 1, v4, h0, x0, ds => (if (decide (v4 < (↑(List.length x0) : Int))) = true then ((0 ≤ v4) ∧ (v4 < (↑(List.length x0) : Int)) ∧ ((0 ≤ v4) ∧ (v4 < (↑(List.length h0) : Int)) ∧ ((InR .i64 (v4 + 1)) ∧ (R20_3 n (v4 + 1) (List.set h0 (Int.toNat v4) ((List.getD x0 (Int.toNat v4) (0, 0, 0, ())).1, (List.getD x0 (Int.toNat v4) (0, 0, 0, ())).2.1, (List.getD x0 (Int.toNat v4) (0, 0, 0, ())).2.2.1, ())) (x0) ds)))) else (ds = [Dyn.mk (Ty.sl (Ty.cons (Ty.int .i64) (Ty.cons (Ty.int .i64) (Ty.cons (Ty.int .i64) Ty.unit)))) h0]))
end
theorem p20_0 (x0 : List TyB2) : Am.runN tab ext20 false 23 [] 2000 [] [] [0, 3, 4] [0] [] [.code b20] (entE 0 0 sig20 (x0, ())) (entL sig20 (x0, ())) = some (cutAt b20 3, E20_3 (0) (List.replicate (Int.toNat (↑(List.length x0) : Int)) (0, 0, 0, ())) (x0), L20_3 (0) (List.replicate (Int.toNat (↑(List.length x0) : Int)) (0, 0, 0, ())) (x0), [0 ≤ (↑(List.length x0) : Int), (↑(List.length x0) : Int) ≤ (↑(List.length x0) : Int), 24 * (↑(List.length x0) : Int) ≤ 281474976710656]) := by kernel_rfl
theorem p20_1 (v4 : Int) (h0 : List TyB2) (x0 : List TyB2) : Am.runN tab ext20 false 23 [] 2000 [] [] [0, 3, 4] [0] [true] (cutAt b20 3) (E20_3 v4 h0 x0) (L20_3 v4 h0 x0) = some (cutAt b20 3, E20_3 (v4 + 1) (List.set h0 (Int.toNat v4) ((List.getD x0 (Int.toNat v4) (0, 0, 0, ())).1, (List.getD x0 (Int.toNat v4) (0, 0, 0, ())).2.1, (List.getD x0 (Int.toNat v4) (0, 0, 0, ())).2.2.1, ())) (x0), L20_3 (v4 + 1) (List.set h0 (Int.toNat v4) ((List.getD x0 (Int.toNat v4) (0, 0, 0, ())).1, (List.getD x0 (Int.toNat v4) (0, 0, 0, ())).2.1, (List.getD x0 (Int.toNat v4) (0, 0, 0, ())).2.2.1, ())) (x0), [decide (v4 < (↑(List.length x0) : Int)) = true, 0 ≤ v4, v4 < (↑(List.length x0) : Int), True, 0 ≤ v4, v4 < (↑(List.length h0) : Int), InR .i64 (v4 + 1)]) := by kernel_rfl
theorem p20_2 (v4 : Int) (h0 : List TyB2) (x0 : List TyB2) : runF tab ext20 false 23 [] 2000 [] oks20 kds20 tys20 Tryz.f20.results [false] (cutAt b20 3) (E20_3 v4 h0 x0) (L20_3 v4 h0 x0) = some ([Dyn.mk (Ty.sl (Ty.cons (Ty.int .i64) (Ty.cons (Ty.int .i64) (Ty.cons (Ty.int .i64) Ty.unit)))) h0], [], [decide (v4 < (↑(List.length x0) : Int)) = false]) := by kernel_rfl
theorem snd20 : ∀ n, (∀ (x0 : List TyB2) ds, R20 n x0 ds → ∀ K q, AtV Tryz.prog 20 (PostR kds20 oks20 ds [] [] q K) 23 K q [] [.code b20] (entE 0 0 sig20 (x0, ())) (entL sig20 (x0, ()))) ∧ (∀ (v4 : Int) (h0 : List TyB2) (x0 : List TyB2) ds, R20_3 n v4 h0 x0 ds → ∀ K q, AtV Tryz.prog 20 (PostR kds20 oks20 ds [] [] q K) 23 K q [] (cutAt b20 3) (E20_3 v4 h0 x0) (L20_3 v4 h0 x0)) := by
  intro n
  induction n with
  | zero => exact ⟨fun _ _ h => by simp only [R20] at h, fun _ _ _ _ h => by simp only [R20_3] at h⟩
  | succ n ih =>
  obtain ⟨ih, ih3⟩ := ih
  refine ⟨?_, ?_⟩
  · intro x0 ds h K q
    rw [R20] at h
    obtain ⟨s0, s1, s2, h⟩ := h
    exact AtV.runN tabOk ext20Ok mixed (p20_0 x0) ⟨s0, s1, s2, trivial⟩ (ih3 _ _ _ _ h K q)

  · intro v4 h0 x0 ds h K q
    rw [R20_3] at h
    by_cases b0 : (decide (v4 < (↑(List.length x0) : Int))) = true
    · rw [if_pos b0] at h
      obtain ⟨s0, s1, h⟩ := h
      obtain ⟨s2, s3, h⟩ := h
      obtain ⟨s4, h⟩ := h
      exact AtV.runN tabOk ext20Ok mixed (p20_1 v4 h0 x0) ⟨b0, s0, s1, trivial, s2, s3, s4, trivial⟩ (ih3 _ _ _ _ h K q)
    · rw [if_neg b0] at h
      replace b0 := Bool.eq_false_iff.2 b0
      subst h
      exact AtV.fin Tryz.func20 tabOk ext20Ok mixed (p20_2 v4 h0 x0) ⟨b0, trivial⟩



theorem run20 (x0 : List TyB2) (hm : x0.length ≤ maxLen) : ∀ (k i : Nat), i + k = x0.length →
    R20_3 (k + 1) (i : Int) (x0.take i ++ List.replicate k ((0 : Int), (0 : Int), (0 : Int), ())) x0 [⟨.sl (.cons (.int .i64) (.cons (.int .i64) (.cons (.int .i64) .unit))), x0⟩] := by
  intro k
  induction k with
  | zero =>
    intro i hi
    rw [R20_3, if_neg (by simp; omega), List.take_of_length_le (by omega)]
    simp
  | succ k ih =>
    intro i hi
    rw [R20_3, if_pos (by simp; omega)]
    simp only [Int.toNat_natCast]
    refine ⟨by omega, by omega, by omega, by simp; omega, inR_up hm (by omega), ?_⟩
    have hs := set_step x0 ((0 : Int), (0 : Int), (0 : Int), ()) i (by omega) (k + 1) (by omega)
    have he : ∀ y : TyB2, (y.1, y.2.1, y.2.2.1, ()) = y := fun _ => rfl
    rw [he, hs]
    exact ih (i + 1) (by omega)

def g20_0 (x0 : List TyB2) : List TyB2 := x0
def P20 (x0 : List TyB2) : Prop := 24 * (x0.length : Int) ≤ 281474976710656
def S20 : Am.Spec := { sig := sig20, pre := fun ⟨x0, _⟩ => P20 x0, res := fun ⟨x0, _⟩ => [⟨.sl (.cons (.int .i64) (.cons (.int .i64) (.cons (.int .i64) .unit))), g20_0 x0⟩] }
theorem con20 : Contract Tryz.prog 20 S20 := contract_of Tryz.func20 hb20 (Nat.le_of_ble_eq_true (by kernel_rfl)) (fun ⟨x0, _⟩ h hwf K q => by
  refine (snd20 (x0.length + 2)).1 x0 _ ?_ K q
  show R20 (x0.length + 1 + 1) x0 [⟨.sl (.cons (.int .i64) (.cons (.int .i64) (.cons (.int .i64) .unit))), x0⟩]
  rw [R20]
  refine ⟨by omega, by omega, h, ?_⟩
  have := run20 x0 hwf.1.1 x0.length 0 (by omega)
  simpa using this)

end
end Go.Proofs.YtcakiedjgnhjcaaGreat

/- Function 73 (laws.toLimit): its runs between cut points. Written by a program of this repo (gen). -/
set_option linter.unusedVariables false
set_option linter.unusedSimpArgs false
set_option maxRecDepth 100000
namespace Go.Proofs.YtcakiedjgnhjcaaGreat
open Go Go.Am Go.Proofs
noncomputable section
def ext73 : Ext := []
theorem ext73Ok : ExtOk Tryz.prog ext73 := trivial

noncomputable def b73 : Code := bodyOf Tryz.f73
theorem hb73 : Tryz.f73.body = some b73 := by kernel_rfl
def sig73 : List AT := [AT.v (Ty.cons (Ty.int .i64) (Ty.cons (Ty.int .i64) (Ty.cons (Ty.int .i64) Ty.unit)))]
def tys73 : List Ty := [Ty.cons (Ty.int .i64) (Ty.cons (Ty.int .i64) (Ty.cons (Ty.int .i64) Ty.unit))]
def kds73 : List RK := []
def oks73 : List AT := owns sig73
def P73 (x0 : Int × Int × Int × Unit) : Prop := True
def g73_0 (x0 : Int × Int × Int × Unit) : Int × Int × Int × Unit := (x0.1, x0.2.1, x0.2.2.1, ())
theorem p73_0 (x0 : Int × Int × Int × Unit) : runF tab ext73 false 14 [] 2000 [] oks73 kds73 tys73 Tryz.f73.results [] [.code b73] (entE 0 0 sig73 (x0, ())) (entL sig73 (x0, ())) = some ([Dyn.mk (Ty.cons (Ty.int .i64) (Ty.cons (Ty.int .i64) (Ty.cons (Ty.int .i64) Ty.unit))) (x0.1, x0.2.1, x0.2.2.1, ())], [], []) := by kernel_rfl
theorem at73 (x0 : Int × Int × Int × Unit) (h : P73 x0) (K : Ctx) (q : Nat → Value) : AtV Tryz.prog 73 (PostR kds73 oks73 [⟨Ty.cons (Ty.int .i64) (Ty.cons (Ty.int .i64) (Ty.cons (Ty.int .i64) Ty.unit)), g73_0 x0⟩] [] [] q K) 14 K q [] [.code b73] (entE 0 0 sig73 (x0, ())) (entL sig73 (x0, ())) := by
  unfold P73 at h
  unfold g73_0
  exact AtV.fin Tryz.func73 tabOk ext73Ok mixed (p73_0 x0) trivial

def S73 : Am.Spec := { sig := sig73, pre := fun ⟨x0, _⟩ => P73 x0, res := fun ⟨x0, _⟩ => [⟨Ty.cons (Ty.int .i64) (Ty.cons (Ty.int .i64) (Ty.cons (Ty.int .i64) Ty.unit)), g73_0 x0⟩], kds := kds73 }
theorem con73 : Contract Tryz.prog 73 S73 := contract_of Tryz.func73 hb73 (Nat.le_of_ble_eq_true (by kernel_rfl)) (fun ⟨x0, _⟩ h _ K q => at73 x0 h K q)


end
end Go.Proofs.YtcakiedjgnhjcaaGreat

/- Function 21 (laws.toLimitS): its runs between cut points. Written by a program of this repo (gen). -/
set_option linter.unusedVariables false
set_option linter.unusedSimpArgs false
set_option maxRecDepth 100000
namespace Go.Proofs.YtcakiedjgnhjcaaGreat
open Go Go.Am Go.Proofs
noncomputable section
def ext21 : Ext := [(73, S73)]
theorem call21_73 : Callable Tryz.prog 73 := ⟨Tryz.f73, Tryz.func73, by kernel_rfl, by kernel_rfl⟩
theorem ext21Ok : ExtOk Tryz.prog ext21 := ⟨⟨call21_73, con73⟩, trivial⟩

noncomputable def b21 : Code := bodyOf Tryz.f21
theorem hb21 : Tryz.f21.body = some b21 := by kernel_rfl
def sig21 : List AT := [AT.v (Ty.sl (Ty.cons (Ty.int .i64) (Ty.cons (Ty.int .i64) (Ty.cons (Ty.int .i64) Ty.unit))))]
def tys21 : List Ty := [Ty.sl (Ty.cons (Ty.int .i64) (Ty.cons (Ty.int .i64) (Ty.cons (Ty.int .i64) Ty.unit)))]
def kds21 : List RK := []
def oks21 : List AT := owns sig21
def E21_3 (v4 : Int) (h0 : List TyB2) (x0 : List TyB2) : Env := [(0, PV.a (Atom.sl (Ty.cons (Ty.int .i64) (Ty.cons (Ty.int .i64) (Ty.cons (Ty.int .i64) Ty.unit))) x0)), (3, PV.a (Atom.osl 0 Option.none)), (4, PV.a (Atom.val (Value.int .i64 v4)))]
def L21_3 (v4 : Int) (h0 : List TyB2) (x0 : List TyB2) : Heap := [Option.some (Arr.mk (Ty.cons (Ty.int .i64) (Ty.cons (Ty.int .i64) (Ty.cons (Ty.int .i64) Ty.unit))) h0 false Option.none Option.none)]
mutual
def R21 : Nat → List TyB2 → List Dyn → Prop
  | 0, _, _ => False
  | n + 1, x0, ds => ((0 ≤ (↑(List.length x0) : Int)) ∧ ((↑(List.length x0) : Int) ≤ (↑(List.length x0) : Int)) ∧ (24 * (↑(List.length x0) : Int) ≤ 281474976710656) ∧ (R21_3 n (0) (List.replicate (Int.toNat (↑(List.length x0) : Int)) (0, 0, 0, ())) (x0) ds))
def R21_3 : Nat → Int → List TyB2 → List TyB2 → List Dyn → Prop
  | 0, _, _, _, _ => False
  | n + 1, v4, h0, x0, ds => (if (decide (v4 < (↑(List.length x0) : Int))) = true then ((0 ≤ v4) ∧ (v4 < (↑(List.length x0) : Int)) ∧ ((0 ≤ v4) ∧ (v4 < (↑(List.length h0) : Int)) ∧ ((InR .i64 (v4 + 1)) ∧ (R21_3 n (v4 + 1) (List.set h0 (Int.toNat v4) ((List.getD x0 (Int.toNat v4) (0, 0, 0, ())).1, (List.getD x0 (Int.toNat v4) (0, 0, 0, ())).2.1, (List.getD x0 (Int.toNat v4) (0, 0, 0, ())).2.2.1, ())) (x0) ds)))) else (ds = [Dyn.mk (Ty.sl (Ty.cons (Ty.int .i64) (Ty.cons (Ty.int .i64) (Ty.cons (Ty.int .i64) Ty.unit)))) h0]))
end
theorem p21_0 (x0 : List TyB2) : Am.runN tab ext21 false 23 [] 2000 [] [] [0, 3, 4] [0] [] [.code b21] (entE 0 0 sig21 (x0, ())) (entL sig21 (x0, ())) = some (cutAt b21 3, E21_3 (0) (List.replicate (Int.toNat (↑(List.length x0) : Int)) (0, 0, 0, ())) (x0), L21_3 (0) (List.replicate (Int.toNat (↑(List.length x0) : Int)) (0, 0, 0, ())) (x0), [0 ≤ (↑(List.length x0) : Int), (↑(List.length x0) : Int) ≤ (↑(List.length x0) : Int), 24 * (↑(List.length x0) : Int) ≤ 281474976710656]) := by kernel_rfl
theorem p21_1 (v4 : Int) (h0 : List TyB2) (x0 : List TyB2) : Am.runN tab ext21 false 23 [] 2000 [] [] [0, 3, 4] [0] [true] (cutAt b21 3) (E21_3 v4 h0 x0) (L21_3 v4 h0 x0) = some (cutAt b21 3, E21_3 (v4 + 1) (List.set h0 (Int.toNat v4) ((List.getD x0 (Int.toNat v4) (0, 0, 0, ())).1, (List.getD x0 (Int.toNat v4) (0, 0, 0, ())).2.1, (List.getD x0 (Int.toNat v4) (0, 0, 0, ())).2.2.1, ())) (x0), L21_3 (v4 + 1) (List.set h0 (Int.toNat v4) ((List.getD x0 (Int.toNat v4) (0, 0, 0, ())).1, (List.getD x0 (Int.toNat v4) (0, 0, 0, ())).2.1, (List.getD x0 (Int.toNat v4) (0, 0, 0, ())).2.2.1, ())) (x0), [decide (v4 < (↑(List.length x0) : Int)) = true, 0 ≤ v4, v4 < (↑(List.length x0) : Int), True, 0 ≤ v4, v4 < (↑(List.length h0) : Int), InR .i64 (v4 + 1)]) := by kernel_rfl
theorem p21_2 (v4 : Int) (h0 : List TyB2) (x0 : List TyB2) : runF tab ext21 false 23 [] 2000 [] oks21 kds21 tys21 Tryz.f21.results [false] (cutAt b21 3) (E21_3 v4 h0 x0) (L21_3 v4 h0 x0) = some ([Dyn.mk (Ty.sl (Ty.cons (Ty.int .i64) (Ty.cons (Ty.int .i64) (Ty.cons (Ty.int .i64) Ty.unit)))) h0], [], [decide (v4 < (↑(List.length x0) : Int)) = false]) := by kernel_rfl
theorem snd21 : ∀ n, (∀ (x0 : List TyB2) ds, R21 n x0 ds → ∀ K q, AtV Tryz.prog 21 (PostR kds21 oks21 ds [] [] q K) 23 K q [] [.code b21] (entE 0 0 sig21 (x0, ())) (entL sig21 (x0, ()))) ∧ (∀ (v4 : Int) (h0 : List TyB2) (x0 : List TyB2) ds, R21_3 n v4 h0 x0 ds → ∀ K q, AtV Tryz.prog 21 (PostR kds21 oks21 ds [] [] q K) 23 K q [] (cutAt b21 3) (E21_3 v4 h0 x0) (L21_3 v4 h0 x0)) := by
  intro n
  induction n with
  | zero => exact ⟨fun _ _ h => by simp only [R21] at h, fun _ _ _ _ h => by simp only [R21_3] at h⟩
  | succ n ih =>
  obtain ⟨ih, ih3⟩ := ih
  refine ⟨?_, ?_⟩
  · intro x0 ds h K q
    rw [R21] at h
    obtain ⟨s0, s1, s2, h⟩ := h
    exact AtV.runN tabOk ext21Ok mixed (p21_0 x0) ⟨s0, s1, s2, trivial⟩ (ih3 _ _ _ _ h K q)

  · intro v4 h0 x0 ds h K q
    rw [R21_3] at h
    by_cases b0 : (decide (v4 < (↑(List.length x0) : Int))) = true
    · rw [if_pos b0] at h
      obtain ⟨s0, s1, h⟩ := h
      obtain ⟨s2, s3, h⟩ := h
      obtain ⟨s4, h⟩ := h
      exact AtV.runN tabOk ext21Ok mixed (p21_1 v4 h0 x0) ⟨b0, s0, s1, trivial, s2, s3, s4, trivial⟩ (ih3 _ _ _ _ h K q)
    · rw [if_neg b0] at h
      replace b0 := Bool.eq_false_iff.2 b0
      subst h
      exact AtV.fin Tryz.func21 tabOk ext21Ok mixed (p21_2 v4 h0 x0) ⟨b0, trivial⟩



theorem run21 (x0 : List TyB2) (hm : x0.length ≤ maxLen) : ∀ (k i : Nat), i + k = x0.length →
    R21_3 (k + 1) (i : Int) (x0.take i ++ List.replicate k ((0 : Int), (0 : Int), (0 : Int), ())) x0 [⟨.sl (.cons (.int .i64) (.cons (.int .i64) (.cons (.int .i64) .unit))), x0⟩] := by
  intro k
  induction k with
  | zero =>
    intro i hi
    rw [R21_3, if_neg (by simp; omega), List.take_of_length_le (by omega)]
    simp
  | succ k ih =>
    intro i hi
    rw [R21_3, if_pos (by simp; omega)]
    simp only [Int.toNat_natCast]
    refine ⟨by omega, by omega, by omega, by simp; omega, inR_up hm (by omega), ?_⟩
    have hs := set_step x0 ((0 : Int), (0 : Int), (0 : Int), ()) i (by omega) (k + 1) (by omega)
    have he : ∀ y : TyB2, (y.1, y.2.1, y.2.2.1, ()) = y := fun _ => rfl
    rw [he, hs]
    exact ih (i + 1) (by omega)

def g21_0 (x0 : List TyB2) : List TyB2 := x0
def P21 (x0 : List TyB2) : Prop := 24 * (x0.length : Int) ≤ 281474976710656
def S21 : Am.Spec := { sig := sig21, pre := fun ⟨x0, _⟩ => P21 x0, res := fun ⟨x0, _⟩ => [⟨.sl (.cons (.int .i64) (.cons (.int .i64) (.cons (.int .i64) .unit))), g21_0 x0⟩] }
theorem con21 : Contract Tryz.prog 21 S21 := contract_of Tryz.func21 hb21 (Nat.le_of_ble_eq_true (by kernel_rfl)) (fun ⟨x0, _⟩ h hwf K q => by
  refine (snd21 (x0.length + 2)).1 x0 _ ?_ K q
  show R21 (x0.length + 1 + 1) x0 [⟨.sl (.cons (.int .i64) (.cons (.int .i64) (.cons (.int .i64) .unit))), x0⟩]
  rw [R21]
  refine ⟨by omega, by omega, h, ?_⟩
  have := run21 x0 hwf.1.1 x0.length 0 (by omega)
  simpa using this)

end
end Go.Proofs.YtcakiedjgnhjcaaGreat

/- Function 22 (laws.toMotor): its runs between cut points. Written by a program of this repo (gen). -/
set_option linter.unusedVariables false
set_option linter.unusedSimpArgs false
set_option maxRecDepth 100000
namespace Go.Proofs.YtcakiedjgnhjcaaGreat
open Go Go.Am Go.Proofs
noncomputable section
def ext22 : Ext := []
theorem ext22Ok : ExtOk Tryz.prog ext22 := trivial

noncomputable def b22 : Code := bodyOf Tryz.f22
theorem hb22 : Tryz.f22.body = some b22 := by kernel_rfl
def sig22 : List AT := [AT.v (Ty.cons (Ty.int .i64) (Ty.cons (Ty.int .i64) (Ty.cons (Ty.int .i64) Ty.unit)))]
def tys22 : List Ty := [Ty.cons (Ty.int .i64) (Ty.cons (Ty.int .i64) (Ty.cons (Ty.int .i64) Ty.unit))]
def kds22 : List RK := []
def oks22 : List AT := owns sig22
def P22 (x0 : Int × Int × Int × Unit) : Prop := True
def g22_0 (x0 : Int × Int × Int × Unit) : Int × Int × Int × Unit := (x0.1, x0.2.1, x0.2.2.1, ())
theorem p22_0 (x0 : Int × Int × Int × Unit) : runF tab ext22 false 14 [] 2000 [] oks22 kds22 tys22 Tryz.f22.results [] [.code b22] (entE 0 0 sig22 (x0, ())) (entL sig22 (x0, ())) = some ([Dyn.mk (Ty.cons (Ty.int .i64) (Ty.cons (Ty.int .i64) (Ty.cons (Ty.int .i64) Ty.unit))) (x0.1, x0.2.1, x0.2.2.1, ())], [], []) := by kernel_rfl
theorem at22 (x0 : Int × Int × Int × Unit) (h : P22 x0) (K : Ctx) (q : Nat → Value) : AtV Tryz.prog 22 (PostR kds22 oks22 [⟨Ty.cons (Ty.int .i64) (Ty.cons (Ty.int .i64) (Ty.cons (Ty.int .i64) Ty.unit)), g22_0 x0⟩] [] [] q K) 14 K q [] [.code b22] (entE 0 0 sig22 (x0, ())) (entL sig22 (x0, ())) := by
  unfold P22 at h
  unfold g22_0
  exact AtV.fin Tryz.func22 tabOk ext22Ok mixed (p22_0 x0) trivial

def S22 : Am.Spec := { sig := sig22, pre := fun ⟨x0, _⟩ => P22 x0, res := fun ⟨x0, _⟩ => [⟨Ty.cons (Ty.int .i64) (Ty.cons (Ty.int .i64) (Ty.cons (Ty.int .i64) Ty.unit)), g22_0 x0⟩], kds := kds22 }
theorem con22 : Contract Tryz.prog 22 S22 := contract_of Tryz.func22 hb22 (Nat.le_of_ble_eq_true (by kernel_rfl)) (fun ⟨x0, _⟩ h _ K q => at22 x0 h K q)


end
end Go.Proofs.YtcakiedjgnhjcaaGreat

/- Function 23 (laws.toDoor): its runs between cut points. Written by a program of this repo (gen). -/
set_option linter.unusedVariables false
set_option linter.unusedSimpArgs false
set_option maxRecDepth 100000
namespace Go.Proofs.YtcakiedjgnhjcaaGreat
open Go Go.Am Go.Proofs
noncomputable section
def ext23 : Ext := []
theorem ext23Ok : ExtOk Tryz.prog ext23 := trivial

noncomputable def b23 : Code := bodyOf Tryz.f23
theorem hb23 : Tryz.f23.body = some b23 := by kernel_rfl
def sig23 : List AT := [AT.v (Ty.cons (Ty.int .i64) (Ty.cons (Ty.int .i64) (Ty.cons (Ty.int .i64) Ty.unit)))]
def tys23 : List Ty := [Ty.cons (Ty.int .i64) (Ty.cons (Ty.int .i64) (Ty.cons (Ty.int .i64) Ty.unit))]
def kds23 : List RK := []
def oks23 : List AT := owns sig23
def P23 (x0 : Int × Int × Int × Unit) : Prop := True
def g23_0 (x0 : Int × Int × Int × Unit) : Int × Int × Int × Unit := (x0.1, x0.2.1, x0.2.2.1, ())
theorem p23_0 (x0 : Int × Int × Int × Unit) : runF tab ext23 false 14 [] 2000 [] oks23 kds23 tys23 Tryz.f23.results [] [.code b23] (entE 0 0 sig23 (x0, ())) (entL sig23 (x0, ())) = some ([Dyn.mk (Ty.cons (Ty.int .i64) (Ty.cons (Ty.int .i64) (Ty.cons (Ty.int .i64) Ty.unit))) (x0.1, x0.2.1, x0.2.2.1, ())], [], []) := by kernel_rfl
theorem at23 (x0 : Int × Int × Int × Unit) (h : P23 x0) (K : Ctx) (q : Nat → Value) : AtV Tryz.prog 23 (PostR kds23 oks23 [⟨Ty.cons (Ty.int .i64) (Ty.cons (Ty.int .i64) (Ty.cons (Ty.int .i64) Ty.unit)), g23_0 x0⟩] [] [] q K) 14 K q [] [.code b23] (entE 0 0 sig23 (x0, ())) (entL sig23 (x0, ())) := by
  unfold P23 at h
  unfold g23_0
  exact AtV.fin Tryz.func23 tabOk ext23Ok mixed (p23_0 x0) trivial

def S23 : Am.Spec := { sig := sig23, pre := fun ⟨x0, _⟩ => P23 x0, res := fun ⟨x0, _⟩ => [⟨Ty.cons (Ty.int .i64) (Ty.cons (Ty.int .i64) (Ty.cons (Ty.int .i64) Ty.unit)), g23_0 x0⟩], kds := kds23 }
theorem con23 : Contract Tryz.prog 23 S23 := contract_of Tryz.func23 hb23 (Nat.le_of_ble_eq_true (by kernel_rfl)) (fun ⟨x0, _⟩ h _ K q => at23 x0 h K q)


end
end Go.Proofs.YtcakiedjgnhjcaaGreat

/- Function 74 (laws.toWorker): its runs between cut points. Written by a program of this repo (gen). -/
set_option linter.unusedVariables false
set_option linter.unusedSimpArgs false
set_option maxRecDepth 100000
namespace Go.Proofs.YtcakiedjgnhjcaaGreat
open Go Go.Am Go.Proofs
noncomputable section
def ext74 : Ext := []
theorem ext74Ok : ExtOk Tryz.prog ext74 := trivial

noncomputable def b74 : Code := bodyOf Tryz.f74
theorem hb74 : Tryz.f74.body = some b74 := by kernel_rfl
def sig74 : List AT := [AT.v (Ty.cons Ty.str (Ty.cons (Ty.int .i64) (Ty.cons (Ty.int .i64) Ty.unit)))]
def tys74 : List Ty := [Ty.cons Ty.str (Ty.cons (Ty.int .i64) (Ty.cons (Ty.int .i64) Ty.unit))]
def kds74 : List RK := []
def oks74 : List AT := owns sig74
def P74 (x0 : ByteArray × Int × Int × Unit) : Prop := True
def g74_0 (x0 : ByteArray × Int × Int × Unit) : ByteArray × Int × Int × Unit := (x0.1, x0.2.1, x0.2.2.1, ())
theorem p74_0 (x0 : ByteArray × Int × Int × Unit) : runF tab ext74 false 14 [] 2000 [] oks74 kds74 tys74 Tryz.f74.results [] [.code b74] (entE 0 0 sig74 (x0, ())) (entL sig74 (x0, ())) = some ([Dyn.mk (Ty.cons Ty.str (Ty.cons (Ty.int .i64) (Ty.cons (Ty.int .i64) Ty.unit))) (x0.1, x0.2.1, x0.2.2.1, ())], [], []) := by kernel_rfl
theorem at74 (x0 : ByteArray × Int × Int × Unit) (h : P74 x0) (K : Ctx) (q : Nat → Value) : AtV Tryz.prog 74 (PostR kds74 oks74 [⟨Ty.cons Ty.str (Ty.cons (Ty.int .i64) (Ty.cons (Ty.int .i64) Ty.unit)), g74_0 x0⟩] [] [] q K) 14 K q [] [.code b74] (entE 0 0 sig74 (x0, ())) (entL sig74 (x0, ())) := by
  unfold P74 at h
  unfold g74_0
  exact AtV.fin Tryz.func74 tabOk ext74Ok mixed (p74_0 x0) trivial

def S74 : Am.Spec := { sig := sig74, pre := fun ⟨x0, _⟩ => P74 x0, res := fun ⟨x0, _⟩ => [⟨Ty.cons Ty.str (Ty.cons (Ty.int .i64) (Ty.cons (Ty.int .i64) Ty.unit)), g74_0 x0⟩], kds := kds74 }
theorem con74 : Contract Tryz.prog 74 S74 := contract_of Tryz.func74 hb74 (Nat.le_of_ble_eq_true (by kernel_rfl)) (fun ⟨x0, _⟩ h _ K q => at74 x0 h K q)


end
end Go.Proofs.YtcakiedjgnhjcaaGreat

/- Function 24 (laws.toWorkerS): its runs between cut points. Written by a program of this repo (gen). -/
set_option linter.unusedVariables false
set_option linter.unusedSimpArgs false
set_option maxRecDepth 100000
namespace Go.Proofs.YtcakiedjgnhjcaaGreat
open Go Go.Am Go.Proofs
noncomputable section
def ext24 : Ext := [(74, S74)]
theorem call24_74 : Callable Tryz.prog 74 := ⟨Tryz.f74, Tryz.func74, by kernel_rfl, by kernel_rfl⟩
theorem ext24Ok : ExtOk Tryz.prog ext24 := ⟨⟨call24_74, con74⟩, trivial⟩

noncomputable def b24 : Code := bodyOf Tryz.f24
theorem hb24 : Tryz.f24.body = some b24 := by kernel_rfl
def sig24 : List AT := [AT.v (Ty.sl (Ty.cons Ty.str (Ty.cons (Ty.int .i64) (Ty.cons (Ty.int .i64) Ty.unit))))]
def tys24 : List Ty := [Ty.sl (Ty.cons Ty.str (Ty.cons (Ty.int .i64) (Ty.cons (Ty.int .i64) Ty.unit)))]
def kds24 : List RK := []
def oks24 : List AT := owns sig24
def E24_3 (v4 : Int) (h0 : List TyB1) (x0 : List TyB1) : Env := [(0, PV.a (Atom.sl (Ty.cons Ty.str (Ty.cons (Ty.int .i64) (Ty.cons (Ty.int .i64) Ty.unit))) x0)), (3, PV.a (Atom.osl 0 Option.none)), (4, PV.a (Atom.val (Value.int .i64 v4)))]
def L24_3 (v4 : Int) (h0 : List TyB1) (x0 : List TyB1) : Heap := [Option.some (Arr.mk (Ty.cons Ty.str (Ty.cons (Ty.int .i64) (Ty.cons (Ty.int .i64) Ty.unit))) h0 false Option.none Option.none)]
mutual
def R24 : Nat → List TyB1 → List Dyn → Prop
  | 0, _, _ => False
  | n + 1, x0, ds => ((0 ≤ (↑(List.length x0) : Int)) ∧ ((↑(List.length x0) : Int) ≤ (↑(List.length x0) : Int)) ∧ (32 * (↑(List.length x0) : Int) ≤ 281474976710656) ∧ (R24_3 n (0) (List.replicate (Int.toNat (↑(List.length x0) : Int)) (ByteArray.empty, 0, 0, ())) (x0) ds))
def R24_3 : Nat → Int → List TyB1 → List TyB1 → List Dyn → Prop
  | 0, _, _, _, _ => False
  | n + 1, v4, h0, x0, ds => (if (decide (v4 < (↑(List.length x0) : Int))) = true then ((0 ≤ v4) ∧ (v4 < (↑(List.length x0) : Int)) ∧ ((0 ≤ v4) ∧ (v4 < (↑(List.length h0) : Int)) ∧ ((InR .i64 (v4 + 1)) ∧ (R24_3 n (v4 + 1) (List.set h0 (Int.toNat v4) ((List.getD x0 (Int.toNat v4) (ByteArray.empty, 0, 0, ())).1, (List.getD x0 (Int.toNat v4) (ByteArray.empty, 0, 0, ())).2.1, (List.getD x0 (Int.toNat v4) (ByteArray.empty, 0, 0, ())).2.2.1, ())) (x0) ds)))) else (ds = [Dyn.mk (Ty.sl (Ty.cons Ty.str (Ty.cons (Ty.int .i64) (Ty.cons (Ty.int .i64) Ty.unit)))) h0]))
end
theorem p24_0 (x0 : List TyB1) : Am.runN tab ext24 false 23 [] 2000 [] [] [0, 3, 4] [0] [] [.code b24] (entE 0 0 sig24 (x0, ())) (entL sig24 (x0, ())) = some (cutAt b24 3, E24_3 (0) (List.replicate (Int.toNat (↑(List.length x0) : Int)) (ByteArray.empty, 0, 0, ())) (x0), L24_3 (0) (List.replicate (Int.toNat (↑(List.length x0) : Int)) (ByteArray.empty, 0, 0, ())) (x0), [0 ≤ (↑(List.length x0) : Int), (↑(List.length x0) : Int) ≤ (↑(List.length x0) : Int), 32 * (↑(List.length x0) : Int) ≤ 281474976710656]) := by kernel_rfl
theorem p24_1 (v4 : Int) (h0 : List TyB1) (x0 : List TyB1) : Am.runN tab ext24 false 23 [] 2000 [] [] [0, 3, 4] [0] [true] (cutAt b24 3) (E24_3 v4 h0 x0) (L24_3 v4 h0 x0) = some (cutAt b24 3, E24_3 (v4 + 1) (List.set h0 (Int.toNat v4) ((List.getD x0 (Int.toNat v4) (ByteArray.empty, 0, 0, ())).1, (List.getD x0 (Int.toNat v4) (ByteArray.empty, 0, 0, ())).2.1, (List.getD x0 (Int.toNat v4) (ByteArray.empty, 0, 0, ())).2.2.1, ())) (x0), L24_3 (v4 + 1) (List.set h0 (Int.toNat v4) ((List.getD x0 (Int.toNat v4) (ByteArray.empty, 0, 0, ())).1, (List.getD x0 (Int.toNat v4) (ByteArray.empty, 0, 0, ())).2.1, (List.getD x0 (Int.toNat v4) (ByteArray.empty, 0, 0, ())).2.2.1, ())) (x0), [decide (v4 < (↑(List.length x0) : Int)) = true, 0 ≤ v4, v4 < (↑(List.length x0) : Int), True, 0 ≤ v4, v4 < (↑(List.length h0) : Int), InR .i64 (v4 + 1)]) := by kernel_rfl
theorem p24_2 (v4 : Int) (h0 : List TyB1) (x0 : List TyB1) : runF tab ext24 false 23 [] 2000 [] oks24 kds24 tys24 Tryz.f24.results [false] (cutAt b24 3) (E24_3 v4 h0 x0) (L24_3 v4 h0 x0) = some ([Dyn.mk (Ty.sl (Ty.cons Ty.str (Ty.cons (Ty.int .i64) (Ty.cons (Ty.int .i64) Ty.unit)))) h0], [], [decide (v4 < (↑(List.length x0) : Int)) = false]) := by kernel_rfl
theorem snd24 : ∀ n, (∀ (x0 : List TyB1) ds, R24 n x0 ds → ∀ K q, AtV Tryz.prog 24 (PostR kds24 oks24 ds [] [] q K) 23 K q [] [.code b24] (entE 0 0 sig24 (x0, ())) (entL sig24 (x0, ()))) ∧ (∀ (v4 : Int) (h0 : List TyB1) (x0 : List TyB1) ds, R24_3 n v4 h0 x0 ds → ∀ K q, AtV Tryz.prog 24 (PostR kds24 oks24 ds [] [] q K) 23 K q [] (cutAt b24 3) (E24_3 v4 h0 x0) (L24_3 v4 h0 x0)) := by
  intro n
  induction n with
  | zero => exact ⟨fun _ _ h => by simp only [R24] at h, fun _ _ _ _ h => by simp only [R24_3] at h⟩
  | succ n ih =>
  obtain ⟨ih, ih3⟩ := ih
  refine ⟨?_, ?_⟩
  · intro x0 ds h K q
    rw [R24] at h
    obtain ⟨s0, s1, s2, h⟩ := h
    exact AtV.runN tabOk ext24Ok mixed (p24_0 x0) ⟨s0, s1, s2, trivial⟩ (ih3 _ _ _ _ h K q)

  · intro v4 h0 x0 ds h K q
    rw [R24_3] at h
    by_cases b0 : (decide (v4 < (↑(List.length x0) : Int))) = true
    · rw [if_pos b0] at h
      obtain ⟨s0, s1, h⟩ := h
      obtain ⟨s2, s3, h⟩ := h
      obtain ⟨s4, h⟩ := h
      exact AtV.runN tabOk ext24Ok mixed (p24_1 v4 h0 x0) ⟨b0, s0, s1, trivial, s2, s3, s4, trivial⟩ (ih3 _ _ _ _ h K q)
    · rw [if_neg b0] at h
      replace b0 := Bool.eq_false_iff.2 b0
      subst h
      exact AtV.fin Tryz.func24 tabOk ext24Ok mixed (p24_2 v4 h0 x0) ⟨b0, trivial⟩



theorem run24 (x0 : List TyB1) (hm : x0.length ≤ maxLen) : ∀ (k i : Nat), i + k = x0.length →
    R24_3 (k + 1) (i : Int) (x0.take i ++ List.replicate k (ByteArray.empty, (0 : Int), (0 : Int), ())) x0 [⟨.sl (.cons .str (.cons (.int .i64) (.cons (.int .i64) .unit))), x0⟩] := by
  intro k
  induction k with
  | zero =>
    intro i hi
    rw [R24_3, if_neg (by simp; omega), List.take_of_length_le (by omega)]
    simp
  | succ k ih =>
    intro i hi
    rw [R24_3, if_pos (by simp; omega)]
    simp only [Int.toNat_natCast]
    refine ⟨by omega, by omega, by omega, by simp; omega, inR_up hm (by omega), ?_⟩
    have hs := set_step x0 (ByteArray.empty, (0 : Int), (0 : Int), ()) i (by omega) (k + 1) (by omega)
    have he : ∀ y : TyB1, (y.1, y.2.1, y.2.2.1, ()) = y := fun _ => rfl
    rw [he, hs]
    exact ih (i + 1) (by omega)

def g24_0 (x0 : List TyB1) : List TyB1 := x0
def P24 (x0 : List TyB1) : Prop := 32 * (x0.length : Int) ≤ 281474976710656
def S24 : Am.Spec := { sig := sig24, pre := fun ⟨x0, _⟩ => P24 x0, res := fun ⟨x0, _⟩ => [⟨.sl (.cons .str (.cons (.int .i64) (.cons (.int .i64) .unit))), g24_0 x0⟩] }
theorem con24 : Contract Tryz.prog 24 S24 := contract_of Tryz.func24 hb24 (Nat.le_of_ble_eq_true (by kernel_rfl)) (fun ⟨x0, _⟩ h hwf K q => by
  refine (snd24 (x0.length + 2)).1 x0 _ ?_ K q
  show R24 (x0.length + 1 + 1) x0 [⟨.sl (.cons .str (.cons (.int .i64) (.cons (.int .i64) .unit))), x0⟩]
  rw [R24]
  refine ⟨by omega, by omega, h, ?_⟩
  have := run24 x0 hwf.1.1 x0.length 0 (by omega)
  simpa using this)

end
end Go.Proofs.YtcakiedjgnhjcaaGreat

/- Function 25 (laws.toBasin): its runs between cut points. Written by a program of this repo (gen). -/
set_option linter.unusedVariables false
set_option linter.unusedSimpArgs false
set_option maxRecDepth 100000
namespace Go.Proofs.YtcakiedjgnhjcaaGreat
open Go Go.Am Go.Proofs
noncomputable section
def ext25 : Ext := []
theorem ext25Ok : ExtOk Tryz.prog ext25 := trivial

noncomputable def b25 : Code := bodyOf Tryz.f25
theorem hb25 : Tryz.f25.body = some b25 := by kernel_rfl
def sig25 : List AT := [AT.v (Ty.cons (Ty.int .i64) (Ty.cons (Ty.int .i64) (Ty.cons (Ty.int .i64) (Ty.cons (Ty.int .i64) Ty.unit))))]
def tys25 : List Ty := [Ty.cons (Ty.int .i64) (Ty.cons (Ty.int .i64) (Ty.cons (Ty.int .i64) (Ty.cons (Ty.int .i64) Ty.unit)))]
def kds25 : List RK := []
def oks25 : List AT := owns sig25
def P25 (x0 : Int × Int × Int × Int × Unit) : Prop := True
def g25_0 (x0 : Int × Int × Int × Int × Unit) : Int × Int × Int × Int × Unit := (x0.1, x0.2.1, x0.2.2.1, x0.2.2.2.1, ())
theorem p25_0 (x0 : Int × Int × Int × Int × Unit) : runF tab ext25 false 17 [] 2000 [] oks25 kds25 tys25 Tryz.f25.results [] [.code b25] (entE 0 0 sig25 (x0, ())) (entL sig25 (x0, ())) = some ([Dyn.mk (Ty.cons (Ty.int .i64) (Ty.cons (Ty.int .i64) (Ty.cons (Ty.int .i64) (Ty.cons (Ty.int .i64) Ty.unit)))) (x0.1, x0.2.1, x0.2.2.1, x0.2.2.2.1, ())], [], []) := by kernel_rfl
theorem at25 (x0 : Int × Int × Int × Int × Unit) (h : P25 x0) (K : Ctx) (q : Nat → Value) : AtV Tryz.prog 25 (PostR kds25 oks25 [⟨Ty.cons (Ty.int .i64) (Ty.cons (Ty.int .i64) (Ty.cons (Ty.int .i64) (Ty.cons (Ty.int .i64) Ty.unit))), g25_0 x0⟩] [] [] q K) 17 K q [] [.code b25] (entE 0 0 sig25 (x0, ())) (entL sig25 (x0, ())) := by
  unfold P25 at h
  unfold g25_0
  exact AtV.fin Tryz.func25 tabOk ext25Ok mixed (p25_0 x0) trivial

def S25 : Am.Spec := { sig := sig25, pre := fun ⟨x0, _⟩ => P25 x0, res := fun ⟨x0, _⟩ => [⟨Ty.cons (Ty.int .i64) (Ty.cons (Ty.int .i64) (Ty.cons (Ty.int .i64) (Ty.cons (Ty.int .i64) Ty.unit))), g25_0 x0⟩], kds := kds25 }
theorem con25 : Contract Tryz.prog 25 S25 := contract_of Tryz.func25 hb25 (Nat.le_of_ble_eq_true (by kernel_rfl)) (fun ⟨x0, _⟩ h _ K q => at25 x0 h K q)


end
end Go.Proofs.YtcakiedjgnhjcaaGreat

/- Function 75 (laws.toFare): its runs between cut points. Written by a program of this repo (gen). -/
set_option linter.unusedVariables false
set_option linter.unusedSimpArgs false
set_option maxRecDepth 100000
namespace Go.Proofs.YtcakiedjgnhjcaaGreat
open Go Go.Am Go.Proofs
noncomputable section
def ext75 : Ext := []
theorem ext75Ok : ExtOk Tryz.prog ext75 := trivial

noncomputable def b75 : Code := bodyOf Tryz.f75
theorem hb75 : Tryz.f75.body = some b75 := by kernel_rfl
def sig75 : List AT := [AT.v (Ty.cons Ty.str (Ty.cons (Ty.int .i64) (Ty.cons (Ty.int .i64) (Ty.cons (Ty.int .i64) Ty.unit))))]
def tys75 : List Ty := [Ty.cons Ty.str (Ty.cons (Ty.int .i64) (Ty.cons (Ty.int .i64) (Ty.cons (Ty.int .i64) Ty.unit)))]
def kds75 : List RK := []
def oks75 : List AT := owns sig75
def P75 (x0 : ByteArray × Int × Int × Int × Unit) : Prop := True
def g75_0 (x0 : ByteArray × Int × Int × Int × Unit) : ByteArray × Int × Int × Int × Unit := (x0.1, x0.2.1, x0.2.2.1, x0.2.2.2.1, ())
theorem p75_0 (x0 : ByteArray × Int × Int × Int × Unit) : runF tab ext75 false 17 [] 2000 [] oks75 kds75 tys75 Tryz.f75.results [] [.code b75] (entE 0 0 sig75 (x0, ())) (entL sig75 (x0, ())) = some ([Dyn.mk (Ty.cons Ty.str (Ty.cons (Ty.int .i64) (Ty.cons (Ty.int .i64) (Ty.cons (Ty.int .i64) Ty.unit)))) (x0.1, x0.2.1, x0.2.2.1, x0.2.2.2.1, ())], [], []) := by kernel_rfl
theorem at75 (x0 : ByteArray × Int × Int × Int × Unit) (h : P75 x0) (K : Ctx) (q : Nat → Value) : AtV Tryz.prog 75 (PostR kds75 oks75 [⟨Ty.cons Ty.str (Ty.cons (Ty.int .i64) (Ty.cons (Ty.int .i64) (Ty.cons (Ty.int .i64) Ty.unit))), g75_0 x0⟩] [] [] q K) 17 K q [] [.code b75] (entE 0 0 sig75 (x0, ())) (entL sig75 (x0, ())) := by
  unfold P75 at h
  unfold g75_0
  exact AtV.fin Tryz.func75 tabOk ext75Ok mixed (p75_0 x0) trivial

def S75 : Am.Spec := { sig := sig75, pre := fun ⟨x0, _⟩ => P75 x0, res := fun ⟨x0, _⟩ => [⟨Ty.cons Ty.str (Ty.cons (Ty.int .i64) (Ty.cons (Ty.int .i64) (Ty.cons (Ty.int .i64) Ty.unit))), g75_0 x0⟩], kds := kds75 }
theorem con75 : Contract Tryz.prog 75 S75 := contract_of Tryz.func75 hb75 (Nat.le_of_ble_eq_true (by kernel_rfl)) (fun ⟨x0, _⟩ h _ K q => at75 x0 h K q)


end
end Go.Proofs.YtcakiedjgnhjcaaGreat

/- Function 26 (laws.toFareS): its runs between cut points. Written by a program of this repo (gen). -/
set_option linter.unusedVariables false
set_option linter.unusedSimpArgs false
set_option maxRecDepth 100000
namespace Go.Proofs.YtcakiedjgnhjcaaGreat
open Go Go.Am Go.Proofs
noncomputable section
def ext26 : Ext := [(75, S75)]
theorem call26_75 : Callable Tryz.prog 75 := ⟨Tryz.f75, Tryz.func75, by kernel_rfl, by kernel_rfl⟩
theorem ext26Ok : ExtOk Tryz.prog ext26 := ⟨⟨call26_75, con75⟩, trivial⟩

noncomputable def b26 : Code := bodyOf Tryz.f26
theorem hb26 : Tryz.f26.body = some b26 := by kernel_rfl
def sig26 : List AT := [AT.v (Ty.sl (Ty.cons Ty.str (Ty.cons (Ty.int .i64) (Ty.cons (Ty.int .i64) (Ty.cons (Ty.int .i64) Ty.unit)))))]
def tys26 : List Ty := [Ty.sl (Ty.cons Ty.str (Ty.cons (Ty.int .i64) (Ty.cons (Ty.int .i64) (Ty.cons (Ty.int .i64) Ty.unit))))]
def kds26 : List RK := []
def oks26 : List AT := owns sig26
def E26_3 (v4 : Int) (h0 : List TyB0) (x0 : List TyB0) : Env := [(0, PV.a (Atom.sl (Ty.cons Ty.str (Ty.cons (Ty.int .i64) (Ty.cons (Ty.int .i64) (Ty.cons (Ty.int .i64) Ty.unit)))) x0)), (3, PV.a (Atom.osl 0 Option.none)), (4, PV.a (Atom.val (Value.int .i64 v4)))]
def L26_3 (v4 : Int) (h0 : List TyB0) (x0 : List TyB0) : Heap := [Option.some (Arr.mk (Ty.cons Ty.str (Ty.cons (Ty.int .i64) (Ty.cons (Ty.int .i64) (Ty.cons (Ty.int .i64) Ty.unit)))) h0 false Option.none Option.none)]
mutual
def R26 : Nat → List TyB0 → List Dyn → Prop
  | 0, _, _ => False
  | n + 1, x0, ds => ((0 ≤ (↑(List.length x0) : Int)) ∧ ((↑(List.length x0) : Int) ≤ (↑(List.length x0) : Int)) ∧ (40 * (↑(List.length x0) : Int) ≤ 281474976710656) ∧ (R26_3 n (0) (List.replicate (Int.toNat (↑(List.length x0) : Int)) (ByteArray.empty, 0, 0, 0, ())) (x0) ds))
def R26_3 : Nat → Int → List TyB0 → List TyB0 → List Dyn → Prop
  | 0, _, _, _, _ => False
  | n + 1, v4, h0, x0, ds => (if (decide (v4 < (↑(List.length x0) : Int))) = true then ((0 ≤ v4) ∧ (v4 < (↑(List.length x0) : Int)) ∧ ((0 ≤ v4) ∧ (v4 < (↑(List.length h0) : Int)) ∧ ((InR .i64 (v4 + 1)) ∧ (R26_3 n (v4 + 1) (List.set h0 (Int.toNat v4) ((List.getD x0 (Int.toNat v4) (ByteArray.empty, 0, 0, 0, ())).1, (List.getD x0 (Int.toNat v4) (ByteArray.empty, 0, 0, 0, ())).2.1, (List.getD x0 (Int.toNat v4) (ByteArray.empty, 0, 0, 0, ())).2.2.1, (List.getD x0 (Int.toNat v4) (ByteArray.empty, 0, 0, 0, ())).2.2.2.1, ())) (x0) ds)))) else (ds = [Dyn.mk (Ty.sl (Ty.cons Ty.str (Ty.cons (Ty.int .i64) (Ty.cons (Ty.int .i64) (Ty.cons (Ty.int .i64) Ty.unit))))) h0]))
end
theorem p26_0 (x0 : List TyB0) : Am.runN tab ext26 false 23 [] 2000 [] [] [0, 3, 4] [0] [] [.code b26] (entE 0 0 sig26 (x0, ())) (entL sig26 (x0, ())) = some (cutAt b26 3, E26_3 (0) (List.replicate (Int.toNat (↑(List.length x0) : Int)) (ByteArray.empty, 0, 0, 0, ())) (x0), L26_3 (0) (List.replicate (Int.toNat (↑(List.length x0) : Int)) (ByteArray.empty, 0, 0, 0, ())) (x0), [0 ≤ (↑(List.length x0) : Int), (↑(List.length x0) : Int) ≤ (↑(List.length x0) : Int), 40 * (↑(List.length x0) : Int) ≤ 281474976710656]) := by kernel_rfl
theorem p26_1 (v4 : Int) (h0 : List TyB0) (x0 : List TyB0) : Am.runN tab ext26 false 23 [] 2000 [] [] [0, 3, 4] [0] [true] (cutAt b26 3) (E26_3 v4 h0 x0) (L26_3 v4 h0 x0) = some (cutAt b26 3, E26_3 (v4 + 1) (List.set h0 (Int.toNat v4) ((List.getD x0 (Int.toNat v4) (ByteArray.empty, 0, 0, 0, ())).1, (List.getD x0 (Int.toNat v4) (ByteArray.empty, 0, 0, 0, ())).2.1, (List.getD x0 (Int.toNat v4) (ByteArray.empty, 0, 0, 0, ())).2.2.1, (List.getD x0 (Int.toNat v4) (ByteArray.empty, 0, 0, 0, ())).2.2.2.1, ())) (x0), L26_3 (v4 + 1) (List.set h0 (Int.toNat v4) ((List.getD x0 (Int.toNat v4) (ByteArray.empty, 0, 0, 0, ())).1, (List.getD x0 (Int.toNat v4) (ByteArray.empty, 0, 0, 0, ())).2.1, (List.getD x0 (Int.toNat v4) (ByteArray.empty, 0, 0, 0, ())).2.2.1, (List.getD x0 (Int.toNat v4) (ByteArray.empty, 0, 0, 0, ())).2.2.2.1, ())) (x0), [decide (v4 < (↑(List.length x0) : Int)) = true, 0 ≤ v4, v4 < (↑(List.length x0) : Int), True, 0 ≤ v4, v4 < (↑(List.length h0) : Int), InR .i64 (v4 + 1)]) := by kernel_rfl
theorem p26_2 (v4 : Int) (h0 : List TyB0) (x0 : List TyB0) : runF tab ext26 false 23 [] 2000 [] oks26 kds26 tys26 Tryz.f26.results [false] (cutAt b26 3) (E26_3 v4 h0 x0) (L26_3 v4 h0 x0) = some ([Dyn.mk (Ty.sl (Ty.cons Ty.str (Ty.cons (Ty.int .i64) (Ty.cons (Ty.int .i64) (Ty.cons (Ty.int .i64) Ty.unit))))) h0], [], [decide (v4 < (↑(List.length x0) : Int)) = false]) := by kernel_rfl
theorem snd26 : ∀ n, (∀ (x0 : List TyB0) ds, R26 n x0 ds → ∀ K q, AtV Tryz.prog 26 (PostR kds26 oks26 ds [] [] q K) 23 K q [] [.code b26] (entE 0 0 sig26 (x0, ())) (entL sig26 (x0, ()))) ∧ (∀ (v4 : Int) (h0 : List TyB0) (x0 : List TyB0) ds, R26_3 n v4 h0 x0 ds → ∀ K q, AtV Tryz.prog 26 (PostR kds26 oks26 ds [] [] q K) 23 K q [] (cutAt b26 3) (E26_3 v4 h0 x0) (L26_3 v4 h0 x0)) := by
  intro n
  induction n with
  | zero => exact ⟨fun _ _ h => by simp only [R26] at h, fun _ _ _ _ h => by simp only [R26_3] at h⟩
  | succ n ih =>
  obtain ⟨ih, ih3⟩ := ih
  refine ⟨?_, ?_⟩
  · intro x0 ds h K q
    rw [R26] at h
    obtain ⟨s0, s1, s2, h⟩ := h
    exact AtV.runN tabOk ext26Ok mixed (p26_0 x0) ⟨s0, s1, s2, trivial⟩ (ih3 _ _ _ _ h K q)

  · intro v4 h0 x0 ds h K q
    rw [R26_3] at h
    by_cases b0 : (decide (v4 < (↑(List.length x0) : Int))) = true
    · rw [if_pos b0] at h
      obtain ⟨s0, s1, h⟩ := h
      obtain ⟨s2, s3, h⟩ := h
      obtain ⟨s4, h⟩ := h
      exact AtV.runN tabOk ext26Ok mixed (p26_1 v4 h0 x0) ⟨b0, s0, s1, trivial, s2, s3, s4, trivial⟩ (ih3 _ _ _ _ h K q)
    · rw [if_neg b0] at h
      replace b0 := Bool.eq_false_iff.2 b0
      subst h
      exact AtV.fin Tryz.func26 tabOk ext26Ok mixed (p26_2 v4 h0 x0) ⟨b0, trivial⟩



theorem run26 (x0 : List TyB0) (hm : x0.length ≤ maxLen) : ∀ (k i : Nat), i + k = x0.length →
    R26_3 (k + 1) (i : Int) (x0.take i ++ List.replicate k (ByteArray.empty, (0 : Int), (0 : Int), (0 : Int), ())) x0 [⟨.sl (.cons .str (.cons (.int .i64) (.cons (.int .i64) (.cons (.int .i64) .unit)))), x0⟩] := by
  intro k
  induction k with
  | zero =>
    intro i hi
    rw [R26_3, if_neg (by simp; omega), List.take_of_length_le (by omega)]
    simp
  | succ k ih =>
    intro i hi
    rw [R26_3, if_pos (by simp; omega)]
    simp only [Int.toNat_natCast]
    refine ⟨by omega, by omega, by omega, by simp; omega, inR_up hm (by omega), ?_⟩
    have hs := set_step x0 (ByteArray.empty, (0 : Int), (0 : Int), (0 : Int), ()) i (by omega) (k + 1) (by omega)
    have he : ∀ y : TyB0, (y.1, y.2.1, y.2.2.1, y.2.2.2.1, ()) = y := fun _ => rfl
    rw [he, hs]
    exact ih (i + 1) (by omega)

def g26_0 (x0 : List TyB0) : List TyB0 := x0
def P26 (x0 : List TyB0) : Prop := 40 * (x0.length : Int) ≤ 281474976710656
def S26 : Am.Spec := { sig := sig26, pre := fun ⟨x0, _⟩ => P26 x0, res := fun ⟨x0, _⟩ => [⟨.sl (.cons .str (.cons (.int .i64) (.cons (.int .i64) (.cons (.int .i64) .unit)))), g26_0 x0⟩] }
theorem con26 : Contract Tryz.prog 26 S26 := contract_of Tryz.func26 hb26 (Nat.le_of_ble_eq_true (by kernel_rfl)) (fun ⟨x0, _⟩ h hwf K q => by
  refine (snd26 (x0.length + 2)).1 x0 _ ?_ K q
  show R26 (x0.length + 1 + 1) x0 [⟨.sl (.cons .str (.cons (.int .i64) (.cons (.int .i64) (.cons (.int .i64) .unit)))), x0⟩]
  rw [R26]
  refine ⟨by omega, by omega, h, ?_⟩
  have := run26 x0 hwf.1.1 x0.length 0 (by omega)
  simpa using this)

end
end Go.Proofs.YtcakiedjgnhjcaaGreat

/- Function 76 (laws.toTest): its runs between cut points. Written by a program of this repo (gen). -/
set_option linter.unusedVariables false
set_option linter.unusedSimpArgs false
set_option maxRecDepth 100000
namespace Go.Proofs.YtcakiedjgnhjcaaGreat
open Go Go.Am Go.Proofs
noncomputable section
def ext76 : Ext := []
theorem ext76Ok : ExtOk Tryz.prog ext76 := trivial

noncomputable def b76 : Code := bodyOf Tryz.f76
theorem hb76 : Tryz.f76.body = some b76 := by kernel_rfl
def sig76 : List AT := [AT.v (Ty.cons (Ty.int .i64) (Ty.cons (Ty.int .i64) (Ty.cons (Ty.int .i64) Ty.unit)))]
def tys76 : List Ty := [Ty.cons (Ty.int .i64) (Ty.cons (Ty.int .i64) (Ty.cons (Ty.int .i64) Ty.unit))]
def kds76 : List RK := []
def oks76 : List AT := owns sig76
def P76 (x0 : Int × Int × Int × Unit) : Prop := True
def g76_0 (x0 : Int × Int × Int × Unit) : Int × Int × Int × Unit := (x0.1, x0.2.1, x0.2.2.1, ())
theorem p76_0 (x0 : Int × Int × Int × Unit) : runF tab ext76 false 14 [] 2000 [] oks76 kds76 tys76 Tryz.f76.results [] [.code b76] (entE 0 0 sig76 (x0, ())) (entL sig76 (x0, ())) = some ([Dyn.mk (Ty.cons (Ty.int .i64) (Ty.cons (Ty.int .i64) (Ty.cons (Ty.int .i64) Ty.unit))) (x0.1, x0.2.1, x0.2.2.1, ())], [], []) := by kernel_rfl
theorem at76 (x0 : Int × Int × Int × Unit) (h : P76 x0) (K : Ctx) (q : Nat → Value) : AtV Tryz.prog 76 (PostR kds76 oks76 [⟨Ty.cons (Ty.int .i64) (Ty.cons (Ty.int .i64) (Ty.cons (Ty.int .i64) Ty.unit)), g76_0 x0⟩] [] [] q K) 14 K q [] [.code b76] (entE 0 0 sig76 (x0, ())) (entL sig76 (x0, ())) := by
  unfold P76 at h
  unfold g76_0
  exact AtV.fin Tryz.func76 tabOk ext76Ok mixed (p76_0 x0) trivial

def S76 : Am.Spec := { sig := sig76, pre := fun ⟨x0, _⟩ => P76 x0, res := fun ⟨x0, _⟩ => [⟨Ty.cons (Ty.int .i64) (Ty.cons (Ty.int .i64) (Ty.cons (Ty.int .i64) Ty.unit)), g76_0 x0⟩], kds := kds76 }
theorem con76 : Contract Tryz.prog 76 S76 := contract_of Tryz.func76 hb76 (Nat.le_of_ble_eq_true (by kernel_rfl)) (fun ⟨x0, _⟩ h _ K q => at76 x0 h K q)


end
end Go.Proofs.YtcakiedjgnhjcaaGreat

/- Function 27 (laws.toTestS): its runs between cut points. Written by a program of this repo (gen). -/
set_option linter.unusedVariables false
set_option linter.unusedSimpArgs false
set_option maxRecDepth 100000
namespace Go.Proofs.YtcakiedjgnhjcaaGreat
open Go Go.Am Go.Proofs
noncomputable section
def ext27 : Ext := [(76, S76)]
theorem call27_76 : Callable Tryz.prog 76 := ⟨Tryz.f76, Tryz.func76, by kernel_rfl, by kernel_rfl⟩
theorem ext27Ok : ExtOk Tryz.prog ext27 := ⟨⟨call27_76, con76⟩, trivial⟩

noncomputable def b27 : Code := bodyOf Tryz.f27
theorem hb27 : Tryz.f27.body = some b27 := by kernel_rfl
def sig27 : List AT := [AT.v (Ty.sl (Ty.cons (Ty.int .i64) (Ty.cons (Ty.int .i64) (Ty.cons (Ty.int .i64) Ty.unit))))]
def tys27 : List Ty := [Ty.sl (Ty.cons (Ty.int .i64) (Ty.cons (Ty.int .i64) (Ty.cons (Ty.int .i64) Ty.unit)))]
def kds27 : List RK := []
def oks27 : List AT := owns sig27
def E27_3 (v4 : Int) (h0 : List TyB2) (x0 : List TyB2) : Env := [(0, PV.a (Atom.sl (Ty.cons (Ty.int .i64) (Ty.cons (Ty.int .i64) (Ty.cons (Ty.int .i64) Ty.unit))) x0)), (3, PV.a (Atom.osl 0 Option.none)), (4, PV.a (Atom.val (Value.int .i64 v4)))]
def L27_3 (v4 : Int) (h0 : List TyB2) (x0 : List TyB2) : Heap := [Option.some (Arr.mk (Ty.cons (Ty.int .i64) (Ty.cons (Ty.int .i64) (Ty.cons (Ty.int .i64) Ty.unit))) h0 false Option.none Option.none)]
mutual
def R27 : Nat → List TyB2 → List Dyn → Prop
  | 0, _, _ => False
  | n + 1, x0, ds => ((0 ≤ (↑(List.length x0) : Int)) ∧ ((↑(List.length x0) : Int) ≤ (↑(List.length x0) : Int)) ∧ (24 * (↑(List.length x0) : Int) ≤ 281474976710656) ∧ (R27_3 n (0) (List.replicate (Int.toNat (↑(List.length x0) : Int)) (0, 0, 0, ())) (x0) ds))
def R27_3 : Nat → Int → List TyB2 → List TyB2 → List Dyn → Prop
  | 0, _, _, _, _ => False
  | n + 1, v4, h0, x0, ds => (if (decide (v4 < (↑(List.length x0) : Int))) = true then ((0 ≤ v4) ∧ (v4 < (↑(List.length x0) : Int)) ∧ ((0 ≤ v4) ∧ (v4 < (↑(List.length h0) : Int)) ∧ ((InR .i64 (v4 + 1)) ∧ (R27_3 n (v4 + 1) (List.set h0 (Int.toNat v4) ((List.getD x0 (Int.toNat v4) (0, 0, 0, ())).1, (List.getD x0 (Int.toNat v4) (0, 0, 0, ())).2.1, (List.getD x0 (Int.toNat v4) (0, 0, 0, ())).2.2.1, ())) (x0) ds)))) else (ds = [Dyn.mk (Ty.sl (Ty.cons (Ty.int .i64) (Ty.cons (Ty.int .i64) (Ty.cons (Ty.int .i64) Ty.unit)))) h0]))
end
theorem p27_0 (x0 : List TyB2) : Am.runN tab ext27 false 23 [] 2000 [] [] [0, 3, 4] [0] [] [.code b27] (entE 0 0 sig27 (x0, ())) (entL sig27 (x0, ())) = some (cutAt b27 3, E27_3 (0) (List.replicate (Int.toNat (↑(List.length x0) : Int)) (0, 0, 0, ())) (x0), L27_3 (0) (List.replicate (Int.toNat (↑(List.length x0) : Int)) (0, 0, 0, ())) (x0), [0 ≤ (↑(List.length x0) : Int), (↑(List.length x0) : Int) ≤ (↑(List.length x0) : Int), 24 * (↑(List.length x0) : Int) ≤ 281474976710656]) := by kernel_rfl
theorem p27_1 (v4 : Int) (h0 : List TyB2) (x0 : List TyB2) : Am.runN tab ext27 false 23 [] 2000 [] [] [0, 3, 4] [0] [true] (cutAt b27 3) (E27_3 v4 h0 x0) (L27_3 v4 h0 x0) = some (cutAt b27 3, E27_3 (v4 + 1) (List.set h0 (Int.toNat v4) ((List.getD x0 (Int.toNat v4) (0, 0, 0, ())).1, (List.getD x0 (Int.toNat v4) (0, 0, 0, ())).2.1, (List.getD x0 (Int.toNat v4) (0, 0, 0, ())).2.2.1, ())) (x0), L27_3 (v4 + 1) (List.set h0 (Int.toNat v4) ((List.getD x0 (Int.toNat v4) (0, 0, 0, ())).1, (List.getD x0 (Int.toNat v4) (0, 0, 0, ())).2.1, (List.getD x0 (Int.toNat v4) (0, 0, 0, ())).2.2.1, ())) (x0), [decide (v4 < (↑(List.length x0) : Int)) = true, 0 ≤ v4, v4 < (↑(List.length x0) : Int), True, 0 ≤ v4, v4 < (↑(List.length h0) : Int), InR .i64 (v4 + 1)]) := by kernel_rfl
theorem p27_2 (v4 : Int) (h0 : List TyB2) (x0 : List TyB2) : runF tab ext27 false 23 [] 2000 [] oks27 kds27 tys27 Tryz.f27.results [false] (cutAt b27 3) (E27_3 v4 h0 x0) (L27_3 v4 h0 x0) = some ([Dyn.mk (Ty.sl (Ty.cons (Ty.int .i64) (Ty.cons (Ty.int .i64) (Ty.cons (Ty.int .i64) Ty.unit)))) h0], [], [decide (v4 < (↑(List.length x0) : Int)) = false]) := by kernel_rfl
theorem snd27 : ∀ n, (∀ (x0 : List TyB2) ds, R27 n x0 ds → ∀ K q, AtV Tryz.prog 27 (PostR kds27 oks27 ds [] [] q K) 23 K q [] [.code b27] (entE 0 0 sig27 (x0, ())) (entL sig27 (x0, ()))) ∧ (∀ (v4 : Int) (h0 : List TyB2) (x0 : List TyB2) ds, R27_3 n v4 h0 x0 ds → ∀ K q, AtV Tryz.prog 27 (PostR kds27 oks27 ds [] [] q K) 23 K q [] (cutAt b27 3) (E27_3 v4 h0 x0) (L27_3 v4 h0 x0)) := by
  intro n
  induction n with
  | zero => exact ⟨fun _ _ h => by simp only [R27] at h, fun _ _ _ _ h => by simp only [R27_3] at h⟩
  | succ n ih =>
  obtain ⟨ih, ih3⟩ := ih
  refine ⟨?_, ?_⟩
  · intro x0 ds h K q
    rw [R27] at h
    obtain ⟨s0, s1, s2, h⟩ := h
    exact AtV.runN tabOk ext27Ok mixed (p27_0 x0) ⟨s0, s1, s2, trivial⟩ (ih3 _ _ _ _ h K q)

  · intro v4 h0 x0 ds h K q
    rw [R27_3] at h
    by_cases b0 : (decide (v4 < (↑(List.length x0) : Int))) = true
    · rw [if_pos b0] at h
      obtain ⟨s0, s1, h⟩ := h
      obtain ⟨s2, s3, h⟩ := h
      obtain ⟨s4, h⟩ := h
      exact AtV.runN tabOk ext27Ok mixed (p27_1 v4 h0 x0) ⟨b0, s0, s1, trivial, s2, s3, s4, trivial⟩ (ih3 _ _ _ _ h K q)
    · rw [if_neg b0] at h
      replace b0 := Bool.eq_false_iff.2 b0
      subst h
      exact AtV.fin Tryz.func27 tabOk ext27Ok mixed (p27_2 v4 h0 x0) ⟨b0, trivial⟩



theorem run27 (x0 : List TyB2) (hm : x0.length ≤ maxLen) : ∀ (k i : Nat), i + k = x0.length →
    R27_3 (k + 1) (i : Int) (x0.take i ++ List.replicate k ((0 : Int), (0 : Int), (0 : Int), ())) x0 [⟨.sl (.cons (.int .i64) (.cons (.int .i64) (.cons (.int .i64) .unit))), x0⟩] := by
  intro k
  induction k with
  | zero =>
    intro i hi
    rw [R27_3, if_neg (by simp; omega), List.take_of_length_le (by omega)]
    simp
  | succ k ih =>
    intro i hi
    rw [R27_3, if_pos (by simp; omega)]
    simp only [Int.toNat_natCast]
    refine ⟨by omega, by omega, by omega, by simp; omega, inR_up hm (by omega), ?_⟩
    have hs := set_step x0 ((0 : Int), (0 : Int), (0 : Int), ()) i (by omega) (k + 1) (by omega)
    have he : ∀ y : TyB2, (y.1, y.2.1, y.2.2.1, ()) = y := fun _ => rfl
    rw [he, hs]
    exact ih (i + 1) (by omega)

def g27_0 (x0 : List TyB2) : List TyB2 := x0
def P27 (x0 : List TyB2) : Prop := 24 * (x0.length : Int) ≤ 281474976710656
def S27 : Am.Spec := { sig := sig27, pre := fun ⟨x0, _⟩ => P27 x0, res := fun ⟨x0, _⟩ => [⟨.sl (.cons (.int .i64) (.cons (.int .i64) (.cons (.int .i64) .unit))), g27_0 x0⟩] }
theorem con27 : Contract Tryz.prog 27 S27 := contract_of Tryz.func27 hb27 (Nat.le_of_ble_eq_true (by kernel_rfl)) (fun ⟨x0, _⟩ h hwf K q => by
  refine (snd27 (x0.length + 2)).1 x0 _ ?_ K q
  show R27 (x0.length + 1 + 1) x0 [⟨.sl (.cons (.int .i64) (.cons (.int .i64) (.cons (.int .i64) .unit))), x0⟩]
  rw [R27]
  refine ⟨by omega, by omega, h, ?_⟩
  have := run27 x0 hwf.1.1 x0.length 0 (by omega)
  simpa using this)

end
end Go.Proofs.YtcakiedjgnhjcaaGreat

/- Function 77 (laws.toHelper): its runs between cut points. Written by a program of this repo (gen). -/
set_option linter.unusedVariables false
set_option linter.unusedSimpArgs false
set_option maxRecDepth 100000
namespace Go.Proofs.YtcakiedjgnhjcaaGreat
open Go Go.Am Go.Proofs
noncomputable section
def ext77 : Ext := []
theorem ext77Ok : ExtOk Tryz.prog ext77 := trivial

noncomputable def b77 : Code := bodyOf Tryz.f77
theorem hb77 : Tryz.f77.body = some b77 := by kernel_rfl
def sig77 : List AT := [AT.v (Ty.cons Ty.str (Ty.cons (Ty.int .i64) (Ty.cons (Ty.int .i64) Ty.unit)))]
def tys77 : List Ty := [Ty.cons Ty.str (Ty.cons (Ty.int .i64) (Ty.cons (Ty.int .i64) Ty.unit))]
def kds77 : List RK := []
def oks77 : List AT := owns sig77
def P77 (x0 : ByteArray × Int × Int × Unit) : Prop := True
def g77_0 (x0 : ByteArray × Int × Int × Unit) : ByteArray × Int × Int × Unit := (x0.1, x0.2.1, x0.2.2.1, ())
theorem p77_0 (x0 : ByteArray × Int × Int × Unit) : runF tab ext77 false 14 [] 2000 [] oks77 kds77 tys77 Tryz.f77.results [] [.code b77] (entE 0 0 sig77 (x0, ())) (entL sig77 (x0, ())) = some ([Dyn.mk (Ty.cons Ty.str (Ty.cons (Ty.int .i64) (Ty.cons (Ty.int .i64) Ty.unit))) (x0.1, x0.2.1, x0.2.2.1, ())], [], []) := by kernel_rfl
theorem at77 (x0 : ByteArray × Int × Int × Unit) (h : P77 x0) (K : Ctx) (q : Nat → Value) : AtV Tryz.prog 77 (PostR kds77 oks77 [⟨Ty.cons Ty.str (Ty.cons (Ty.int .i64) (Ty.cons (Ty.int .i64) Ty.unit)), g77_0 x0⟩] [] [] q K) 14 K q [] [.code b77] (entE 0 0 sig77 (x0, ())) (entL sig77 (x0, ())) := by
  unfold P77 at h
  unfold g77_0
  exact AtV.fin Tryz.func77 tabOk ext77Ok mixed (p77_0 x0) trivial

def S77 : Am.Spec := { sig := sig77, pre := fun ⟨x0, _⟩ => P77 x0, res := fun ⟨x0, _⟩ => [⟨Ty.cons Ty.str (Ty.cons (Ty.int .i64) (Ty.cons (Ty.int .i64) Ty.unit)), g77_0 x0⟩], kds := kds77 }
theorem con77 : Contract Tryz.prog 77 S77 := contract_of Tryz.func77 hb77 (Nat.le_of_ble_eq_true (by kernel_rfl)) (fun ⟨x0, _⟩ h _ K q => at77 x0 h K q)


end
end Go.Proofs.YtcakiedjgnhjcaaGreat

/- Function 28 (laws.toHelperS): its runs between cut points. Written by a program of this repo (gen). -/
set_option linter.unusedVariables false
set_option linter.unusedSimpArgs false
set_option maxRecDepth 100000
namespace Go.Proofs.YtcakiedjgnhjcaaGreat
open Go Go.Am Go.Proofs
noncomputable section
def ext28 : Ext := [(77, S77)]
theorem call28_77 : Callable Tryz.prog 77 := ⟨Tryz.f77, Tryz.func77, by kernel_rfl, by kernel_rfl⟩
theorem ext28Ok : ExtOk Tryz.prog ext28 := ⟨⟨call28_77, con77⟩, trivial⟩

noncomputable def b28 : Code := bodyOf Tryz.f28
theorem hb28 : Tryz.f28.body = some b28 := by kernel_rfl
def sig28 : List AT := [AT.v (Ty.sl (Ty.cons Ty.str (Ty.cons (Ty.int .i64) (Ty.cons (Ty.int .i64) Ty.unit))))]
def tys28 : List Ty := [Ty.sl (Ty.cons Ty.str (Ty.cons (Ty.int .i64) (Ty.cons (Ty.int .i64) Ty.unit)))]
def kds28 : List RK := []
def oks28 : List AT := owns sig28
def E28_3 (v4 : Int) (h0 : List TyB1) (x0 : List TyB1) : Env := [(0, PV.a (Atom.sl (Ty.cons Ty.str (Ty.cons (Ty.int .i64) (Ty.cons (Ty.int .i64) Ty.unit))) x0)), (3, PV.a (Atom.osl 0 Option.none)), (4, PV.a (Atom.val (Value.int .i64 v4)))]
def L28_3 (v4 : Int) (h0 : List TyB1) (x0 : List TyB1) : Heap := [Option.some (Arr.mk (Ty.cons Ty.str (Ty.cons (Ty.int .i64) (Ty.cons (Ty.int .i64) Ty.unit))) h0 false Option.none Option.none)]
mutual
def R28 : Nat → List TyB1 → List Dyn → Prop
  | 0, _, _ => False
  | n + 1, x0, ds => ((0 ≤ (↑(List.length x0) : Int)) ∧ ((↑(List.length x0) : Int) ≤ (↑(List.length x0) : Int)) ∧ (32 * (↑(List.length x0) : Int) ≤ 281474976710656) ∧ (R28_3 n (0) (List.replicate (Int.toNat (↑(List.length x0) : Int)) (ByteArray.empty, 0, 0, ())) (x0) ds))
def R28_3 : Nat → Int → List TyB1 → List TyB1 → List Dyn → Prop
  | 0, _, _, _, _ => False
  | n + 1, v4, h0, x0, ds => (if (decide (v4 < (↑(List.length x0) : Int))) = true then ((0 ≤ v4) ∧ (v4 < (↑(List.length x0) : Int)) ∧ ((0 ≤ v4) ∧ (v4 < (↑(List.length h0) : Int)) ∧ ((InR .i64 (v4 + 1)) ∧ (R28_3 n (v4 + 1) (List.set h0 (Int.toNat v4) ((List.getD x0 (Int.toNat v4) (ByteArray.empty, 0, 0, ())).1, (List.getD x0 (Int.toNat v4) (ByteArray.empty, 0, 0, ())).2.1, (List.getD x0 (Int.toNat v4) (ByteArray.empty, 0, 0, ())).2.2.1, ())) (x0) ds)))) else (ds = [Dyn.mk (Ty.sl (Ty.cons Ty.str (Ty.cons (Ty.int .i64) (Ty.cons (Ty.int .i64) Ty.unit)))) h0]))
end
theorem p28_0 (x0 : List TyB1) : Am.runN tab ext28 false 23 [] 2000 [] [] [0, 3, 4] [0] [] [.code b28] (entE 0 0 sig28 (x0, ())) (entL sig28 (x0, ())) = some (cutAt b28 3, E28_3 (0) (List.replicate (Int.toNat (↑(List.length x0) : Int)) (ByteArray.empty, 0, 0, ())) (x0), L28_3 (0) (List.replicate (Int.toNat (↑(List.length x0) : Int)) (ByteArray.empty, 0, 0, ())) (x0), [0 ≤ (↑(List.length x0) : Int), (↑(List.length x0) : Int) ≤ (↑(List.length x0) : Int), 32 * (↑(List.length x0) : Int) ≤ 281474976710656]) := by kernel_rfl
theorem p28_1 (v4 : Int) (h0 : List TyB1) (x0 : List TyB1) : Am.runN tab ext28 false 23 [] 2000 [] [] [0, 3, 4] [0] [true] (cutAt b28 3) (E28_3 v4 h0 x0) (L28_3 v4 h0 x0) = some (cutAt b28 3, E28_3 (v4 + 1) (List.set h0 (Int.toNat v4) ((List.getD x0 (Int.toNat v4) (ByteArray.empty, 0, 0, ())).1, (List.getD x0 (Int.toNat v4) (ByteArray.empty, 0, 0, ())).2.1, (List.getD x0 (Int.toNat v4) (ByteArray.empty, 0, 0, ())).2.2.1, ())) (x0), L28_3 (v4 + 1) (List.set h0 (Int.toNat v4) ((List.getD x0 (Int.toNat v4) (ByteArray.empty, 0, 0, ())).1, (List.getD x0 (Int.toNat v4) (ByteArray.empty, 0, 0, ())).2.1, (List.getD x0 (Int.toNat v4) (ByteArray.empty, 0, 0, ())).2.2.1, ())) (x0), [decide (v4 < (↑(List.length x0) : Int)) = true, 0 ≤ v4, v4 < (↑(List.length x0) : Int), True, 0 ≤ v4, v4 < (↑(List.length h0) : Int), InR .i64 (v4 + 1)]) := by kernel_rfl
theorem p28_2 (v4 : Int) (h0 : List TyB1) (x0 : List TyB1) : runF tab ext28 false 23 [] 2000 [] oks28 kds28 tys28 Tryz.f28.results [false] (cutAt b28 3) (E28_3 v4 h0 x0) (L28_3 v4 h0 x0) = some ([Dyn.mk (Ty.sl (Ty.cons Ty.str (Ty.cons (Ty.int .i64) (Ty.cons (Ty.int .i64) Ty.unit)))) h0], [], [decide (v4 < (↑(List.length x0) : Int)) = false]) := by kernel_rfl
theorem snd28 : ∀ n, (∀ (x0 : List TyB1) ds, R28 n x0 ds → ∀ K q, AtV Tryz.prog 28 (PostR kds28 oks28 ds [] [] q K) 23 K q [] [.code b28] (entE 0 0 sig28 (x0, ())) (entL sig28 (x0, ()))) ∧ (∀ (v4 : Int) (h0 : List TyB1) (x0 : List TyB1) ds, R28_3 n v4 h0 x0 ds → ∀ K q, AtV Tryz.prog 28 (PostR kds28 oks28 ds [] [] q K) 23 K q [] (cutAt b28 3) (E28_3 v4 h0 x0) (L28_3 v4 h0 x0)) := by
  intro n
  induction n with
  | zero => exact ⟨fun _ _ h => by simp only [R28] at h, fun _ _ _ _ h => by simp only [R28_3] at h⟩
  | succ n ih =>
  obtain ⟨ih, ih3⟩ := ih
  refine ⟨?_, ?_⟩
  · intro x0 ds h K q
    rw [R28] at h
    obtain ⟨s0, s1, s2, h⟩ := h
    exact AtV.runN tabOk ext28Ok mixed (p28_0 x0) ⟨s0, s1, s2, trivial⟩ (ih3 _ _ _ _ h K q)

  · intro v4 h0 x0 ds h K q
    rw [R28_3] at h
    by_cases b0 : (decide (v4 < (↑(List.length x0) : Int))) = true
    · rw [if_pos b0] at h
      obtain ⟨s0, s1, h⟩ := h
      obtain ⟨s2, s3, h⟩ := h
      obtain ⟨s4, h⟩ := h
      exact AtV.runN tabOk ext28Ok mixed (p28_1 v4 h0 x0) ⟨b0, s0, s1, trivial, s2, s3, s4, trivial⟩ (ih3 _ _ _ _ h K q)
    · rw [if_neg b0] at h
      replace b0 := Bool.eq_false_iff.2 b0
      subst h
      exact AtV.fin Tryz.func28 tabOk ext28Ok mixed (p28_2 v4 h0 x0) ⟨b0, trivial⟩



theorem run28 (x0 : List TyB1) (hm : x0.length ≤ maxLen) : ∀ (k i : Nat), i + k = x0.length →
    R28_3 (k + 1) (i : Int) (x0.take i ++ List.replicate k (ByteArray.empty, (0 : Int), (0 : Int), ())) x0 [⟨.sl (.cons .str (.cons (.int .i64) (.cons (.int .i64) .unit))), x0⟩] := by
  intro k
  induction k with
  | zero =>
    intro i hi
    rw [R28_3, if_neg (by simp; omega), List.take_of_length_le (by omega)]
    simp
  | succ k ih =>
    intro i hi
    rw [R28_3, if_pos (by simp; omega)]
    simp only [Int.toNat_natCast]
    refine ⟨by omega, by omega, by omega, by simp; omega, inR_up hm (by omega), ?_⟩
    have hs := set_step x0 (ByteArray.empty, (0 : Int), (0 : Int), ()) i (by omega) (k + 1) (by omega)
    have he : ∀ y : TyB1, (y.1, y.2.1, y.2.2.1, ()) = y := fun _ => rfl
    rw [he, hs]
    exact ih (i + 1) (by omega)

def g28_0 (x0 : List TyB1) : List TyB1 := x0
def P28 (x0 : List TyB1) : Prop := 32 * (x0.length : Int) ≤ 281474976710656
def S28 : Am.Spec := { sig := sig28, pre := fun ⟨x0, _⟩ => P28 x0, res := fun ⟨x0, _⟩ => [⟨.sl (.cons .str (.cons (.int .i64) (.cons (.int .i64) .unit))), g28_0 x0⟩] }
theorem con28 : Contract Tryz.prog 28 S28 := contract_of Tryz.func28 hb28 (Nat.le_of_ble_eq_true (by kernel_rfl)) (fun ⟨x0, _⟩ h hwf K q => by
  refine (snd28 (x0.length + 2)).1 x0 _ ?_ K q
  show R28 (x0.length + 1 + 1) x0 [⟨.sl (.cons .str (.cons (.int .i64) (.cons (.int .i64) .unit))), x0⟩]
  rw [R28]
  refine ⟨by omega, by omega, h, ?_⟩
  have := run28 x0 hwf.1.1 x0.length 0 (by omega)
  simpa using this)

end
end Go.Proofs.YtcakiedjgnhjcaaGreat

/- Function 78 (laws.toTask): its runs between cut points. Written by a program of this repo (gen). -/
set_option linter.unusedVariables false
set_option linter.unusedSimpArgs false
set_option maxRecDepth 100000
namespace Go.Proofs.YtcakiedjgnhjcaaGreat
open Go Go.Am Go.Proofs
noncomputable section
def ext78 : Ext := []
theorem ext78Ok : ExtOk Tryz.prog ext78 := trivial

noncomputable def b78 : Code := bodyOf Tryz.f78
theorem hb78 : Tryz.f78.body = some b78 := by kernel_rfl
def sig78 : List AT := [AT.v (Ty.cons Ty.str (Ty.cons (Ty.int .i64) (Ty.cons (Ty.int .i64) Ty.unit)))]
def tys78 : List Ty := [Ty.cons Ty.str (Ty.cons (Ty.int .i64) (Ty.cons (Ty.int .i64) Ty.unit))]
def kds78 : List RK := []
def oks78 : List AT := owns sig78
def P78 (x0 : ByteArray × Int × Int × Unit) : Prop := True
def g78_0 (x0 : ByteArray × Int × Int × Unit) : ByteArray × Int × Int × Unit := (x0.1, x0.2.1, x0.2.2.1, ())
theorem p78_0 (x0 : ByteArray × Int × Int × Unit) : runF tab ext78 false 14 [] 2000 [] oks78 kds78 tys78 Tryz.f78.results [] [.code b78] (entE 0 0 sig78 (x0, ())) (entL sig78 (x0, ())) = some ([Dyn.mk (Ty.cons Ty.str (Ty.cons (Ty.int .i64) (Ty.cons (Ty.int .i64) Ty.unit))) (x0.1, x0.2.1, x0.2.2.1, ())], [], []) := by kernel_rfl
theorem at78 (x0 : ByteArray × Int × Int × Unit) (h : P78 x0) (K : Ctx) (q : Nat → Value) : AtV Tryz.prog 78 (PostR kds78 oks78 [⟨Ty.cons Ty.str (Ty.cons (Ty.int .i64) (Ty.cons (Ty.int .i64) Ty.unit)), g78_0 x0⟩] [] [] q K) 14 K q [] [.code b78] (entE 0 0 sig78 (x0, ())) (entL sig78 (x0, ())) := by
  unfold P78 at h
  unfold g78_0
  exact AtV.fin Tryz.func78 tabOk ext78Ok mixed (p78_0 x0) trivial

def S78 : Am.Spec := { sig := sig78, pre := fun ⟨x0, _⟩ => P78 x0, res := fun ⟨x0, _⟩ => [⟨Ty.cons Ty.str (Ty.cons (Ty.int .i64) (Ty.cons (Ty.int .i64) Ty.unit)), g78_0 x0⟩], kds := kds78 }
theorem con78 : Contract Tryz.prog 78 S78 := contract_of Tryz.func78 hb78 (Nat.le_of_ble_eq_true (by kernel_rfl)) (fun ⟨x0, _⟩ h _ K q => at78 x0 h K q)


end
end Go.Proofs.YtcakiedjgnhjcaaGreat

/- Function 29 (laws.toTaskS): its runs between cut points. Written by a program of this repo (gen). -/
set_option linter.unusedVariables false
set_option linter.unusedSimpArgs false
set_option maxRecDepth 100000
namespace Go.Proofs.YtcakiedjgnhjcaaGreat
open Go Go.Am Go.Proofs
noncomputable section
def ext29 : Ext := [(78, S78)]
theorem call29_78 : Callable Tryz.prog 78 := ⟨Tryz.f78, Tryz.func78, by kernel_rfl, by kernel_rfl⟩
theorem ext29Ok : ExtOk Tryz.prog ext29 := ⟨⟨call29_78, con78⟩, trivial⟩

noncomputable def b29 : Code := bodyOf Tryz.f29
theorem hb29 : Tryz.f29.body = some b29 := by kernel_rfl
def sig29 : List AT := [AT.v (Ty.sl (Ty.cons Ty.str (Ty.cons (Ty.int .i64) (Ty.cons (Ty.int .i64) Ty.unit))))]
def tys29 : List Ty := [Ty.sl (Ty.cons Ty.str (Ty.cons (Ty.int .i64) (Ty.cons (Ty.int .i64) Ty.unit)))]
def kds29 : List RK := []
def oks29 : List AT := owns sig29
def E29_3 (v4 : Int) (h0 : List TyB1) (x0 : List TyB1) : Env := [(0, PV.a (Atom.sl (Ty.cons Ty.str (Ty.cons (Ty.int .i64) (Ty.cons (Ty.int .i64) Ty.unit))) x0)), (3, PV.a (Atom.osl 0 Option.none)), (4, PV.a (Atom.val (Value.int .i64 v4)))]
def L29_3 (v4 : Int) (h0 : List TyB1) (x0 : List TyB1) : Heap := [Option.some (Arr.mk (Ty.cons Ty.str (Ty.cons (Ty.int .i64) (Ty.cons (Ty.int .i64) Ty.unit))) h0 false Option.none Option.none)]
mutual
def R29 : Nat → List TyB1 → List Dyn → Prop
  | 0, _, _ => False
  | n + 1, x0, ds => ((0 ≤ (↑(List.length x0) : Int)) ∧ ((↑(List.length x0) : Int) ≤ (↑(List.length x0) : Int)) ∧ (32 * (↑(List.length x0) : Int) ≤ 281474976710656) ∧ (R29_3 n (0) (List.replicate (Int.toNat (↑(List.length x0) : Int)) (ByteArray.empty, 0, 0, ())) (x0) ds))
def R29_3 : Nat → Int → List TyB1 → List TyB1 → List Dyn → Prop
  | 0, _, _, _, _ => False
  | n + 1, v4, h0, x0, ds => (if (decide (v4 < (↑(List.length x0) : Int))) = true then ((0 ≤ v4) ∧ (v4 < (↑(List.length x0) : Int)) ∧ ((0 ≤ v4) ∧ (v4 < (↑(List.length h0) : Int)) ∧ ((InR .i64 (v4 + 1)) ∧ (R29_3 n (v4 + 1) (List.set h0 (Int.toNat v4) ((List.getD x0 (Int.toNat v4) (ByteArray.empty, 0, 0, ())).1, (List.getD x0 (Int.toNat v4) (ByteArray.empty, 0, 0, ())).2.1, (List.getD x0 (Int.toNat v4) (ByteArray.empty, 0, 0, ())).2.2.1, ())) (x0) ds)))) else (ds = [Dyn.mk (Ty.sl (Ty.cons Ty.str (Ty.cons (Ty.int .i64) (Ty.cons (Ty.int .i64) Ty.unit)))) h0]))
end
theorem p29_0 (x0 : List TyB1) : Am.runN tab ext29 false 23 [] 2000 [] [] [0, 3, 4] [0] [] [.code b29] (entE 0 0 sig29 (x0, ())) (entL sig29 (x0, ())) = some (cutAt b29 3, E29_3 (0) (List.replicate (Int.toNat (↑(List.length x0) : Int)) (ByteArray.empty, 0, 0, ())) (x0), L29_3 (0) (List.replicate (Int.toNat (↑(List.length x0) : Int)) (ByteArray.empty, 0, 0, ())) (x0), [0 ≤ (↑(List.length x0) : Int), (↑(List.length x0) : Int) ≤ (↑(List.length x0) : Int), 32 * (↑(List.length x0) : Int) ≤ 281474976710656]) := by kernel_rfl
theorem p29_1 (v4 : Int) (h0 : List TyB1) (x0 : List TyB1) : Am.runN tab ext29 false 23 [] 2000 [] [] [0, 3, 4] [0] [true] (cutAt b29 3) (E29_3 v4 h0 x0) (L29_3 v4 h0 x0) = some (cutAt b29 3, E29_3 (v4 + 1) (List.set h0 (Int.toNat v4) ((List.getD x0 (Int.toNat v4) (ByteArray.empty, 0, 0, ())).1, (List.getD x0 (Int.toNat v4) (ByteArray.empty, 0, 0, ())).2.1, (List.getD x0 (Int.toNat v4) (ByteArray.empty, 0, 0, ())).2.2.1, ())) (x0), L29_3 (v4 + 1) (List.set h0 (Int.toNat v4) ((List.getD x0 (Int.toNat v4) (ByteArray.empty, 0, 0, ())).1, (List.getD x0 (Int.toNat v4) (ByteArray.empty, 0, 0, ())).2.1, (List.getD x0 (Int.toNat v4) (ByteArray.empty, 0, 0, ())).2.2.1, ())) (x0), [decide (v4 < (↑(List.length x0) : Int)) = true, 0 ≤ v4, v4 < (↑(List.length x0) : Int), True, 0 ≤ v4, v4 < (↑(List.length h0) : Int), InR .i64 (v4 + 1)]) := by kernel_rfl
theorem p29_2 (v4 : Int) (h0 : List TyB1) (x0 : List TyB1) : runF tab ext29 false 23 [] 2000 [] oks29 kds29 tys29 Tryz.f29.results [false] (cutAt b29 3) (E29_3 v4 h0 x0) (L29_3 v4 h0 x0) = some ([Dyn.mk (Ty.sl (Ty.cons Ty.str (Ty.cons (Ty.int .i64) (Ty.cons (Ty.int .i64) Ty.unit)))) h0], [], [decide (v4 < (↑(List.length x0) : Int)) = false]) := by kernel_rfl
theorem snd29 : ∀ n, (∀ (x0 : List TyB1) ds, R29 n x0 ds → ∀ K q, AtV Tryz.prog 29 (PostR kds29 oks29 ds [] [] q K) 23 K q [] [.code b29] (entE 0 0 sig29 (x0, ())) (entL sig29 (x0, ()))) ∧ (∀ (v4 : Int) (h0 : List TyB1) (x0 : List TyB1) ds, R29_3 n v4 h0 x0 ds → ∀ K q, AtV Tryz.prog 29 (PostR kds29 oks29 ds [] [] q K) 23 K q [] (cutAt b29 3) (E29_3 v4 h0 x0) (L29_3 v4 h0 x0)) := by
  intro n
  induction n with
  | zero => exact ⟨fun _ _ h => by simp only [R29] at h, fun _ _ _ _ h => by simp only [R29_3] at h⟩
  | succ n ih =>
  obtain ⟨ih, ih3⟩ := ih
  refine ⟨?_, ?_⟩
  · intro x0 ds h K q
    rw [R29] at h
    obtain ⟨s0, s1, s2, h⟩ := h
    exact AtV.runN tabOk ext29Ok mixed (p29_0 x0) ⟨s0, s1, s2, trivial⟩ (ih3 _ _ _ _ h K q)

  · intro v4 h0 x0 ds h K q
    rw [R29_3] at h
    by_cases b0 : (decide (v4 < (↑(List.length x0) : Int))) = true
    · rw [if_pos b0] at h
      obtain ⟨s0, s1, h⟩ := h
      obtain ⟨s2, s3, h⟩ := h
      obtain ⟨s4, h⟩ := h
      exact AtV.runN tabOk ext29Ok mixed (p29_1 v4 h0 x0) ⟨b0, s0, s1, trivial, s2, s3, s4, trivial⟩ (ih3 _ _ _ _ h K q)
    · rw [if_neg b0] at h
      replace b0 := Bool.eq_false_iff.2 b0
      subst h
      exact AtV.fin Tryz.func29 tabOk ext29Ok mixed (p29_2 v4 h0 x0) ⟨b0, trivial⟩



theorem run29 (x0 : List TyB1) (hm : x0.length ≤ maxLen) : ∀ (k i : Nat), i + k = x0.length →
    R29_3 (k + 1) (i : Int) (x0.take i ++ List.replicate k (ByteArray.empty, (0 : Int), (0 : Int), ())) x0 [⟨.sl (.cons .str (.cons (.int .i64) (.cons (.int .i64) .unit))), x0⟩] := by
  intro k
  induction k with
  | zero =>
    intro i hi
    rw [R29_3, if_neg (by simp; omega), List.take_of_length_le (by omega)]
    simp
  | succ k ih =>
    intro i hi
    rw [R29_3, if_pos (by simp; omega)]
    simp only [Int.toNat_natCast]
    refine ⟨by omega, by omega, by omega, by simp; omega, inR_up hm (by omega), ?_⟩
    have hs := set_step x0 (ByteArray.empty, (0 : Int), (0 : Int), ()) i (by omega) (k + 1) (by omega)
    have he : ∀ y : TyB1, (y.1, y.2.1, y.2.2.1, ()) = y := fun _ => rfl
    rw [he, hs]
    exact ih (i + 1) (by omega)

def g29_0 (x0 : List TyB1) : List TyB1 := x0
def P29 (x0 : List TyB1) : Prop := 32 * (x0.length : Int) ≤ 281474976710656
def S29 : Am.Spec := { sig := sig29, pre := fun ⟨x0, _⟩ => P29 x0, res := fun ⟨x0, _⟩ => [⟨.sl (.cons .str (.cons (.int .i64) (.cons (.int .i64) .unit))), g29_0 x0⟩] }
theorem con29 : Contract Tryz.prog 29 S29 := contract_of Tryz.func29 hb29 (Nat.le_of_ble_eq_true (by kernel_rfl)) (fun ⟨x0, _⟩ h hwf K q => by
  refine (snd29 (x0.length + 2)).1 x0 _ ?_ K q
  show R29 (x0.length + 1 + 1) x0 [⟨.sl (.cons .str (.cons (.int .i64) (.cons (.int .i64) .unit))), x0⟩]
  rw [R29]
  refine ⟨by omega, by omega, h, ?_⟩
  have := run29 x0 hwf.1.1 x0.length 0 (by omega)
  simpa using this)

end
end Go.Proofs.YtcakiedjgnhjcaaGreat

/- Function 6 (laws.toDesk): its runs between cut points. Written by a program of this repo (gen). -/
set_option linter.unusedVariables false
set_option linter.unusedSimpArgs false
set_option maxRecDepth 100000
namespace Go.Proofs.YtcakiedjgnhjcaaGreat
open Go Go.Am Go.Proofs
noncomputable section
def ext6 : Ext := [(18, S18), (19, S19), (20, S20), (21, S21), (22, S22), (23, S23), (24, S24), (25, S25), (26, S26), (27, S27), (28, S28), (29, S29)]
theorem call6_18 : Callable Tryz.prog 18 := ⟨Tryz.f18, Tryz.func18, by kernel_rfl, by kernel_rfl⟩
theorem call6_19 : Callable Tryz.prog 19 := ⟨Tryz.f19, Tryz.func19, by kernel_rfl, by kernel_rfl⟩
theorem call6_20 : Callable Tryz.prog 20 := ⟨Tryz.f20, Tryz.func20, by kernel_rfl, by kernel_rfl⟩
theorem call6_21 : Callable Tryz.prog 21 := ⟨Tryz.f21, Tryz.func21, by kernel_rfl, by kernel_rfl⟩
theorem call6_22 : Callable Tryz.prog 22 := ⟨Tryz.f22, Tryz.func22, by kernel_rfl, by kernel_rfl⟩
theorem call6_23 : Callable Tryz.prog 23 := ⟨Tryz.f23, Tryz.func23, by kernel_rfl, by kernel_rfl⟩
theorem call6_24 : Callable Tryz.prog 24 := ⟨Tryz.f24, Tryz.func24, by kernel_rfl, by kernel_rfl⟩
theorem call6_25 : Callable Tryz.prog 25 := ⟨Tryz.f25, Tryz.func25, by kernel_rfl, by kernel_rfl⟩
theorem call6_26 : Callable Tryz.prog 26 := ⟨Tryz.f26, Tryz.func26, by kernel_rfl, by kernel_rfl⟩
theorem call6_27 : Callable Tryz.prog 27 := ⟨Tryz.f27, Tryz.func27, by kernel_rfl, by kernel_rfl⟩
theorem call6_28 : Callable Tryz.prog 28 := ⟨Tryz.f28, Tryz.func28, by kernel_rfl, by kernel_rfl⟩
theorem call6_29 : Callable Tryz.prog 29 := ⟨Tryz.f29, Tryz.func29, by kernel_rfl, by kernel_rfl⟩
theorem ext6Ok : ExtOk Tryz.prog ext6 := ⟨⟨call6_18, con18⟩, ⟨call6_19, con19⟩, ⟨call6_20, con20⟩, ⟨call6_21, con21⟩, ⟨call6_22, con22⟩, ⟨call6_23, con23⟩, ⟨call6_24, con24⟩, ⟨call6_25, con25⟩, ⟨call6_26, con26⟩, ⟨call6_27, con27⟩, ⟨call6_28, con28⟩, ⟨call6_29, con29⟩, trivial⟩

noncomputable def b6 : Code := bodyOf Tryz.f6
theorem hb6 : Tryz.f6.body = some b6 := by kernel_rfl
def sig6 : List AT := [AT.v (Ty.cons (Ty.sl (Ty.cons Ty.str (Ty.cons (Ty.int .i64) (Ty.cons (Ty.int .i64) (Ty.cons (Ty.int .i64) Ty.unit))))) (Ty.cons (Ty.cons (Ty.int .i64) (Ty.cons (Ty.int .i64) (Ty.cons (Ty.int .i64) (Ty.cons (Ty.int .i64) Ty.unit)))) (Ty.cons (Ty.sl (Ty.cons (Ty.int .i64) (Ty.cons (Ty.int .i64) (Ty.cons (Ty.int .i64) Ty.unit)))) (Ty.cons (Ty.sl (Ty.cons (Ty.int .i64) (Ty.cons (Ty.int .i64) (Ty.cons (Ty.int .i64) Ty.unit)))) (Ty.cons (Ty.cons (Ty.int .i64) (Ty.cons (Ty.int .i64) (Ty.cons (Ty.int .i64) Ty.unit))) (Ty.cons (Ty.cons (Ty.int .i64) (Ty.cons (Ty.int .i64) (Ty.cons (Ty.int .i64) Ty.unit))) (Ty.cons (Ty.sl (Ty.cons Ty.str (Ty.cons (Ty.int .i64) (Ty.cons (Ty.int .i64) Ty.unit)))) (Ty.cons (Ty.cons (Ty.int .i64) (Ty.cons (Ty.int .i64) (Ty.cons (Ty.int .i64) (Ty.cons (Ty.int .i64) Ty.unit)))) (Ty.cons (Ty.sl (Ty.cons Ty.str (Ty.cons (Ty.int .i64) (Ty.cons (Ty.int .i64) (Ty.cons (Ty.int .i64) Ty.unit))))) (Ty.cons (Ty.sl (Ty.cons (Ty.int .i64) (Ty.cons (Ty.int .i64) (Ty.cons (Ty.int .i64) Ty.unit)))) (Ty.cons (Ty.sl (Ty.cons Ty.str (Ty.cons (Ty.int .i64) (Ty.cons (Ty.int .i64) Ty.unit)))) (Ty.cons (Ty.sl (Ty.cons Ty.str (Ty.cons (Ty.int .i64) (Ty.cons (Ty.int .i64) Ty.unit)))) Ty.unit))))))))))))]
def tys6 : List Ty := [Ty.cons (Ty.sl (Ty.cons Ty.str (Ty.cons (Ty.int .i64) (Ty.cons (Ty.int .i64) (Ty.cons (Ty.int .i64) Ty.unit))))) (Ty.cons (Ty.cons (Ty.int .i64) (Ty.cons (Ty.int .i64) (Ty.cons (Ty.int .i64) (Ty.cons (Ty.int .i64) Ty.unit)))) (Ty.cons (Ty.sl (Ty.cons (Ty.int .i64) (Ty.cons (Ty.int .i64) (Ty.cons (Ty.int .i64) Ty.unit)))) (Ty.cons (Ty.sl (Ty.cons (Ty.int .i64) (Ty.cons (Ty.int .i64) (Ty.cons (Ty.int .i64) Ty.unit)))) (Ty.cons (Ty.cons (Ty.int .i64) (Ty.cons (Ty.int .i64) (Ty.cons (Ty.int .i64) Ty.unit))) (Ty.cons (Ty.cons (Ty.int .i64) (Ty.cons (Ty.int .i64) (Ty.cons (Ty.int .i64) Ty.unit))) (Ty.cons (Ty.sl (Ty.cons Ty.str (Ty.cons (Ty.int .i64) (Ty.cons (Ty.int .i64) Ty.unit)))) (Ty.cons (Ty.cons (Ty.int .i64) (Ty.cons (Ty.int .i64) (Ty.cons (Ty.int .i64) (Ty.cons (Ty.int .i64) Ty.unit)))) (Ty.cons (Ty.sl (Ty.cons Ty.str (Ty.cons (Ty.int .i64) (Ty.cons (Ty.int .i64) (Ty.cons (Ty.int .i64) Ty.unit))))) (Ty.cons (Ty.sl (Ty.cons (Ty.int .i64) (Ty.cons (Ty.int .i64) (Ty.cons (Ty.int .i64) Ty.unit)))) (Ty.cons (Ty.sl (Ty.cons Ty.str (Ty.cons (Ty.int .i64) (Ty.cons (Ty.int .i64) Ty.unit)))) (Ty.cons (Ty.sl (Ty.cons Ty.str (Ty.cons (Ty.int .i64) (Ty.cons (Ty.int .i64) Ty.unit)))) Ty.unit)))))))))))]
def kds6 : List RK := [.frz]
def oks6 : List AT := owns sig6
def P6 (x0 : TyA0) : Prop := ((P18 x0.1) ∧ ((P20 x0.2.2.1) ∧ ((P21 x0.2.2.2.1) ∧ ((P24 x0.2.2.2.2.2.2.1) ∧ ((P26 x0.2.2.2.2.2.2.2.2.1) ∧ ((P27 x0.2.2.2.2.2.2.2.2.2.1) ∧ ((P28 x0.2.2.2.2.2.2.2.2.2.2.1) ∧ ((P29 x0.2.2.2.2.2.2.2.2.2.2.2.1) ∧ True))))))))
def g6_0 (x0 : TyA0) : TyA0 := (g18_0 x0.1, (x0.2.1.1, x0.2.1.2.1, x0.2.1.2.2.1, x0.2.1.2.2.2.1, ()), g20_0 x0.2.2.1, g21_0 x0.2.2.2.1, (x0.2.2.2.2.1.1, x0.2.2.2.2.1.2.1, x0.2.2.2.2.1.2.2.1, ()), (x0.2.2.2.2.2.1.1, x0.2.2.2.2.2.1.2.1, x0.2.2.2.2.2.1.2.2.1, ()), g24_0 x0.2.2.2.2.2.2.1, (x0.2.2.2.2.2.2.2.1.1, x0.2.2.2.2.2.2.2.1.2.1, x0.2.2.2.2.2.2.2.1.2.2.1, x0.2.2.2.2.2.2.2.1.2.2.2.1, ()), g26_0 x0.2.2.2.2.2.2.2.2.1, g27_0 x0.2.2.2.2.2.2.2.2.2.1, g28_0 x0.2.2.2.2.2.2.2.2.2.2.1, g29_0 x0.2.2.2.2.2.2.2.2.2.2.2.1, ())
theorem p6_0 (x0 : TyA0) : runF tab ext6 false 53 [] 2000 [] oks6 kds6 tys6 Tryz.f6.results [] [.code b6] (entE 0 0 sig6 (x0, ())) (entL sig6 (x0, ())) = some ([Dyn.mk (Ty.cons (Ty.sl (Ty.cons Ty.str (Ty.cons (Ty.int .i64) (Ty.cons (Ty.int .i64) (Ty.cons (Ty.int .i64) Ty.unit))))) (Ty.cons (Ty.cons (Ty.int .i64) (Ty.cons (Ty.int .i64) (Ty.cons (Ty.int .i64) (Ty.cons (Ty.int .i64) Ty.unit)))) (Ty.cons (Ty.sl (Ty.cons (Ty.int .i64) (Ty.cons (Ty.int .i64) (Ty.cons (Ty.int .i64) Ty.unit)))) (Ty.cons (Ty.sl (Ty.cons (Ty.int .i64) (Ty.cons (Ty.int .i64) (Ty.cons (Ty.int .i64) Ty.unit)))) (Ty.cons (Ty.cons (Ty.int .i64) (Ty.cons (Ty.int .i64) (Ty.cons (Ty.int .i64) Ty.unit))) (Ty.cons (Ty.cons (Ty.int .i64) (Ty.cons (Ty.int .i64) (Ty.cons (Ty.int .i64) Ty.unit))) (Ty.cons (Ty.sl (Ty.cons Ty.str (Ty.cons (Ty.int .i64) (Ty.cons (Ty.int .i64) Ty.unit)))) (Ty.cons (Ty.cons (Ty.int .i64) (Ty.cons (Ty.int .i64) (Ty.cons (Ty.int .i64) (Ty.cons (Ty.int .i64) Ty.unit)))) (Ty.cons (Ty.sl (Ty.cons Ty.str (Ty.cons (Ty.int .i64) (Ty.cons (Ty.int .i64) (Ty.cons (Ty.int .i64) Ty.unit))))) (Ty.cons (Ty.sl (Ty.cons (Ty.int .i64) (Ty.cons (Ty.int .i64) (Ty.cons (Ty.int .i64) Ty.unit)))) (Ty.cons (Ty.sl (Ty.cons Ty.str (Ty.cons (Ty.int .i64) (Ty.cons (Ty.int .i64) Ty.unit)))) (Ty.cons (Ty.sl (Ty.cons Ty.str (Ty.cons (Ty.int .i64) (Ty.cons (Ty.int .i64) Ty.unit)))) Ty.unit)))))))))))) (g18_0 x0.1, (x0.2.1.1, x0.2.1.2.1, x0.2.1.2.2.1, x0.2.1.2.2.2.1, ()), g20_0 x0.2.2.1, g21_0 x0.2.2.2.1, (x0.2.2.2.2.1.1, x0.2.2.2.2.1.2.1, x0.2.2.2.2.1.2.2.1, ()), (x0.2.2.2.2.2.1.1, x0.2.2.2.2.2.1.2.1, x0.2.2.2.2.2.1.2.2.1, ()), g24_0 x0.2.2.2.2.2.2.1, (x0.2.2.2.2.2.2.2.1.1, x0.2.2.2.2.2.2.2.1.2.1, x0.2.2.2.2.2.2.2.1.2.2.1, x0.2.2.2.2.2.2.2.1.2.2.2.1, ()), g26_0 x0.2.2.2.2.2.2.2.2.1, g27_0 x0.2.2.2.2.2.2.2.2.2.1, g28_0 x0.2.2.2.2.2.2.2.2.2.2.1, g29_0 x0.2.2.2.2.2.2.2.2.2.2.2.1, ())], [], [P18 x0.1, True, P20 x0.2.2.1, P21 x0.2.2.2.1, True, True, P24 x0.2.2.2.2.2.2.1, True, P26 x0.2.2.2.2.2.2.2.2.1, P27 x0.2.2.2.2.2.2.2.2.2.1, P28 x0.2.2.2.2.2.2.2.2.2.2.1, P29 x0.2.2.2.2.2.2.2.2.2.2.2.1]) := by kernel_rfl
theorem at6 (x0 : TyA0) (h : P6 x0) (K : Ctx) (q : Nat → Value) : AtV Tryz.prog 6 (PostR kds6 oks6 [⟨Ty.cons (Ty.sl (Ty.cons Ty.str (Ty.cons (Ty.int .i64) (Ty.cons (Ty.int .i64) (Ty.cons (Ty.int .i64) Ty.unit))))) (Ty.cons (Ty.cons (Ty.int .i64) (Ty.cons (Ty.int .i64) (Ty.cons (Ty.int .i64) (Ty.cons (Ty.int .i64) Ty.unit)))) (Ty.cons (Ty.sl (Ty.cons (Ty.int .i64) (Ty.cons (Ty.int .i64) (Ty.cons (Ty.int .i64) Ty.unit)))) (Ty.cons (Ty.sl (Ty.cons (Ty.int .i64) (Ty.cons (Ty.int .i64) (Ty.cons (Ty.int .i64) Ty.unit)))) (Ty.cons (Ty.cons (Ty.int .i64) (Ty.cons (Ty.int .i64) (Ty.cons (Ty.int .i64) Ty.unit))) (Ty.cons (Ty.cons (Ty.int .i64) (Ty.cons (Ty.int .i64) (Ty.cons (Ty.int .i64) Ty.unit))) (Ty.cons (Ty.sl (Ty.cons Ty.str (Ty.cons (Ty.int .i64) (Ty.cons (Ty.int .i64) Ty.unit)))) (Ty.cons (Ty.cons (Ty.int .i64) (Ty.cons (Ty.int .i64) (Ty.cons (Ty.int .i64) (Ty.cons (Ty.int .i64) Ty.unit)))) (Ty.cons (Ty.sl (Ty.cons Ty.str (Ty.cons (Ty.int .i64) (Ty.cons (Ty.int .i64) (Ty.cons (Ty.int .i64) Ty.unit))))) (Ty.cons (Ty.sl (Ty.cons (Ty.int .i64) (Ty.cons (Ty.int .i64) (Ty.cons (Ty.int .i64) Ty.unit)))) (Ty.cons (Ty.sl (Ty.cons Ty.str (Ty.cons (Ty.int .i64) (Ty.cons (Ty.int .i64) Ty.unit)))) (Ty.cons (Ty.sl (Ty.cons Ty.str (Ty.cons (Ty.int .i64) (Ty.cons (Ty.int .i64) Ty.unit)))) Ty.unit))))))))))), g6_0 x0⟩] [] [] q K) 53 K q [] [.code b6] (entE 0 0 sig6 (x0, ())) (entL sig6 (x0, ())) := by
  unfold P6 at h
  unfold g6_0
  obtain ⟨s0, h⟩ := h
  obtain ⟨s1, h⟩ := h
  obtain ⟨s2, h⟩ := h
  obtain ⟨s3, h⟩ := h
  obtain ⟨s4, h⟩ := h
  obtain ⟨s5, h⟩ := h
  obtain ⟨s6, h⟩ := h
  obtain ⟨s7, h⟩ := h
  exact AtV.fin Tryz.func6 tabOk ext6Ok mixed (p6_0 x0) ⟨s0, trivial, s1, s2, trivial, trivial, s3, trivial, s4, s5, s6, s7, trivial⟩

def S6 : Am.Spec := { sig := sig6, pre := fun ⟨x0, _⟩ => P6 x0, res := fun ⟨x0, _⟩ => [⟨Ty.cons (Ty.sl (Ty.cons Ty.str (Ty.cons (Ty.int .i64) (Ty.cons (Ty.int .i64) (Ty.cons (Ty.int .i64) Ty.unit))))) (Ty.cons (Ty.cons (Ty.int .i64) (Ty.cons (Ty.int .i64) (Ty.cons (Ty.int .i64) (Ty.cons (Ty.int .i64) Ty.unit)))) (Ty.cons (Ty.sl (Ty.cons (Ty.int .i64) (Ty.cons (Ty.int .i64) (Ty.cons (Ty.int .i64) Ty.unit)))) (Ty.cons (Ty.sl (Ty.cons (Ty.int .i64) (Ty.cons (Ty.int .i64) (Ty.cons (Ty.int .i64) Ty.unit)))) (Ty.cons (Ty.cons (Ty.int .i64) (Ty.cons (Ty.int .i64) (Ty.cons (Ty.int .i64) Ty.unit))) (Ty.cons (Ty.cons (Ty.int .i64) (Ty.cons (Ty.int .i64) (Ty.cons (Ty.int .i64) Ty.unit))) (Ty.cons (Ty.sl (Ty.cons Ty.str (Ty.cons (Ty.int .i64) (Ty.cons (Ty.int .i64) Ty.unit)))) (Ty.cons (Ty.cons (Ty.int .i64) (Ty.cons (Ty.int .i64) (Ty.cons (Ty.int .i64) (Ty.cons (Ty.int .i64) Ty.unit)))) (Ty.cons (Ty.sl (Ty.cons Ty.str (Ty.cons (Ty.int .i64) (Ty.cons (Ty.int .i64) (Ty.cons (Ty.int .i64) Ty.unit))))) (Ty.cons (Ty.sl (Ty.cons (Ty.int .i64) (Ty.cons (Ty.int .i64) (Ty.cons (Ty.int .i64) Ty.unit)))) (Ty.cons (Ty.sl (Ty.cons Ty.str (Ty.cons (Ty.int .i64) (Ty.cons (Ty.int .i64) Ty.unit)))) (Ty.cons (Ty.sl (Ty.cons Ty.str (Ty.cons (Ty.int .i64) (Ty.cons (Ty.int .i64) Ty.unit)))) Ty.unit))))))))))), g6_0 x0⟩], kds := kds6 }
theorem con6 : Contract Tryz.prog 6 S6 := contract_of Tryz.func6 hb6 (Nat.le_of_ble_eq_true (by kernel_rfl)) (fun ⟨x0, _⟩ h _ K q => at6 x0 h K q)


end
end Go.Proofs.YtcakiedjgnhjcaaGreat

/- Function 128 (spec.l01Small): its runs between cut points. Written by a program of this repo (gen). -/
set_option linter.unusedVariables false
set_option linter.unusedSimpArgs false
set_option maxRecDepth 100000
namespace Go.Proofs.YtcakiedjgnhjcaaGreat
open Go Go.Am Go.Proofs
noncomputable section
def ext128 : Ext := []
theorem ext128Ok : ExtOk Tryz.prog ext128 := trivial

noncomputable def b128 : Code := bodyOf Tryz.f128
theorem hb128 : Tryz.f128.body = some b128 := by kernel_rfl
def sig128 : List AT := [AT.v (Ty.int .u8)]
def tys128 : List Ty := [Ty.bool]
def kds128 : List RK := []
def oks128 : List AT := owns sig128
def P128 (x0 : Int) : Prop := True
def g128_0 (x0 : Int) : Bool := (if (decide (x0 ≥ 97)) = true then decide (x0 ≤ 122) else false)
theorem p128_0 (x0 : Int) : runF tab ext128 false 9 [] 2000 [] oks128 kds128 tys128 Tryz.f128.results [true] [.code b128] (entE 0 0 sig128 (x0, ())) (entL sig128 (x0, ())) = some ([Dyn.mk Ty.bool (decide (x0 ≤ 122))], [], [decide (x0 ≥ 97) = true]) := by kernel_rfl
theorem p128_1 (x0 : Int) : runF tab ext128 false 9 [] 2000 [] oks128 kds128 tys128 Tryz.f128.results [false] [.code b128] (entE 0 0 sig128 (x0, ())) (entL sig128 (x0, ())) = some ([Dyn.mk Ty.bool false], [], [decide (x0 ≥ 97) = false]) := by kernel_rfl
theorem at128 (x0 : Int) (h : P128 x0) (K : Ctx) (q : Nat → Value) : AtV Tryz.prog 128 (PostR kds128 oks128 [⟨Ty.bool, g128_0 x0⟩] [] [] q K) 9 K q [] [.code b128] (entE 0 0 sig128 (x0, ())) (entL sig128 (x0, ())) := by
  unfold P128 at h
  unfold g128_0
  by_cases b0 : (decide (x0 ≥ 97)) = true
  · try simp only [if_pos b0] at h ⊢
    exact AtV.fin Tryz.func128 tabOk ext128Ok mixed (p128_0 x0) ⟨b0, trivial⟩
  · try simp only [if_neg b0] at h ⊢
    replace b0 := Bool.eq_false_iff.2 b0
    exact AtV.fin Tryz.func128 tabOk ext128Ok mixed (p128_1 x0) ⟨b0, trivial⟩

def S128 : Am.Spec := { sig := sig128, pre := fun ⟨x0, _⟩ => P128 x0, res := fun ⟨x0, _⟩ => [⟨Ty.bool, g128_0 x0⟩], kds := kds128 }
theorem con128 : Contract Tryz.prog 128 S128 := contract_of Tryz.func128 hb128 (Nat.le_of_ble_eq_true (by kernel_rfl)) (fun ⟨x0, _⟩ h _ K q => at128 x0 h K q)


end
end Go.Proofs.YtcakiedjgnhjcaaGreat

/- Function 129 (spec.l01Digit): its runs between cut points. Written by a program of this repo (gen). -/
set_option linter.unusedVariables false
set_option linter.unusedSimpArgs false
set_option maxRecDepth 100000
namespace Go.Proofs.YtcakiedjgnhjcaaGreat
open Go Go.Am Go.Proofs
noncomputable section
def ext129 : Ext := []
theorem ext129Ok : ExtOk Tryz.prog ext129 := trivial

noncomputable def b129 : Code := bodyOf Tryz.f129
theorem hb129 : Tryz.f129.body = some b129 := by kernel_rfl
def sig129 : List AT := [AT.v (Ty.int .u8)]
def tys129 : List Ty := [Ty.bool]
def kds129 : List RK := []
def oks129 : List AT := owns sig129
def P129 (x0 : Int) : Prop := True
def g129_0 (x0 : Int) : Bool := (if (decide (x0 ≥ 48)) = true then decide (x0 ≤ 57) else false)
theorem p129_0 (x0 : Int) : runF tab ext129 false 9 [] 2000 [] oks129 kds129 tys129 Tryz.f129.results [true] [.code b129] (entE 0 0 sig129 (x0, ())) (entL sig129 (x0, ())) = some ([Dyn.mk Ty.bool (decide (x0 ≤ 57))], [], [decide (x0 ≥ 48) = true]) := by kernel_rfl
theorem p129_1 (x0 : Int) : runF tab ext129 false 9 [] 2000 [] oks129 kds129 tys129 Tryz.f129.results [false] [.code b129] (entE 0 0 sig129 (x0, ())) (entL sig129 (x0, ())) = some ([Dyn.mk Ty.bool false], [], [decide (x0 ≥ 48) = false]) := by kernel_rfl
theorem at129 (x0 : Int) (h : P129 x0) (K : Ctx) (q : Nat → Value) : AtV Tryz.prog 129 (PostR kds129 oks129 [⟨Ty.bool, g129_0 x0⟩] [] [] q K) 9 K q [] [.code b129] (entE 0 0 sig129 (x0, ())) (entL sig129 (x0, ())) := by
  unfold P129 at h
  unfold g129_0
  by_cases b0 : (decide (x0 ≥ 48)) = true
  · try simp only [if_pos b0] at h ⊢
    exact AtV.fin Tryz.func129 tabOk ext129Ok mixed (p129_0 x0) ⟨b0, trivial⟩
  · try simp only [if_neg b0] at h ⊢
    replace b0 := Bool.eq_false_iff.2 b0
    exact AtV.fin Tryz.func129 tabOk ext129Ok mixed (p129_1 x0) ⟨b0, trivial⟩

def S129 : Am.Spec := { sig := sig129, pre := fun ⟨x0, _⟩ => P129 x0, res := fun ⟨x0, _⟩ => [⟨Ty.bool, g129_0 x0⟩], kds := kds129 }
theorem con129 : Contract Tryz.prog 129 S129 := contract_of Tryz.func129 hb129 (Nat.le_of_ble_eq_true (by kernel_rfl)) (fun ⟨x0, _⟩ h _ K q => at129 x0 h K q)


end
end Go.Proofs.YtcakiedjgnhjcaaGreat

/- Function 121 (spec.l01Name): its runs between cut points. Written by a program of this repo (gen). -/
set_option linter.unusedVariables false
set_option linter.unusedSimpArgs false
set_option maxRecDepth 100000
namespace Go.Proofs.YtcakiedjgnhjcaaGreat
open Go Go.Am Go.Proofs
noncomputable section
def ext121 : Ext := [(128, S128), (129, S129)]
theorem call121_128 : Callable Tryz.prog 128 := ⟨Tryz.f128, Tryz.func128, by kernel_rfl, by kernel_rfl⟩
theorem call121_129 : Callable Tryz.prog 129 := ⟨Tryz.f129, Tryz.func129, by kernel_rfl, by kernel_rfl⟩
theorem ext121Ok : ExtOk Tryz.prog ext121 := ⟨⟨call121_128, con128⟩, ⟨call121_129, con129⟩, trivial⟩

noncomputable def b121 : Code := bodyOf Tryz.f121
theorem hb121 : Tryz.f121.body = some b121 := by kernel_rfl
def sig121 : List AT := [AT.v (Ty.str)]
def tys121 : List Ty := [Ty.bool]
def kds121 : List RK := []
def oks121 : List AT := owns sig121
def E121_4 (v3 : Int) (x0 : ByteArray) : Env := [(0, PV.a (Atom.val (Value.string x0))), (3, PV.a (Atom.val (Value.int .i64 v3)))]
def L121_4 (v3 : Int) (x0 : ByteArray) : Heap := []
mutual
def R121 : Nat → ByteArray → List Dyn → Prop
  | 0, _, _ => False
  | n + 1, x0, ds => (if (ByteArray.toList x0 == ByteArray.toList (ByteArray.mk #[])) = true then (ds = [Dyn.mk Ty.bool false]) else (if (decide ((↑(ByteArray.size x0) : Int) > 10)) = true then (ds = [Dyn.mk Ty.bool false]) else ((0 < (↑(ByteArray.size x0) : Int)) ∧ (if (!g128_0 (↑(UInt8.toNat (List.getD (Array.toList (ByteArray.data x0)) 0 0)) : Int)) = true then (ds = [Dyn.mk Ty.bool false]) else (R121_4 n (0) (x0) ds)))))
def R121_4 : Nat → Int → ByteArray → List Dyn → Prop
  | 0, _, _, _ => False
  | n + 1, v3, x0, ds => (if (decide (v3 < (↑(ByteArray.size x0) : Int))) = true then ((0 ≤ v3) ∧ (v3 < (↑(ByteArray.size x0) : Int)) ∧ (if (!g128_0 (↑(UInt8.toNat (List.getD (Array.toList (ByteArray.data x0)) (Int.toNat v3) 0)) : Int)) = true then ((0 ≤ v3) ∧ (v3 < (↑(ByteArray.size x0) : Int)) ∧ (if (!g129_0 (↑(UInt8.toNat (List.getD (Array.toList (ByteArray.data x0)) (Int.toNat v3) 0)) : Int)) = true then (ds = [Dyn.mk Ty.bool false]) else ((InR .i64 (v3 + 1)) ∧ (R121_4 n (v3 + 1) (x0) ds)))) else ((InR .i64 (v3 + 1)) ∧ (R121_4 n (v3 + 1) (x0) ds)))) else (ds = [Dyn.mk Ty.bool true]))
end
theorem p121_0 (x0 : ByteArray) : runF tab ext121 false 35 [] 2000 [] oks121 kds121 tys121 Tryz.f121.results [true, true, true] [.code b121] (entE 0 0 sig121 (x0, ())) (entL sig121 (x0, ())) = some ([Dyn.mk Ty.bool false], [], [(ByteArray.toList x0 == ByteArray.toList (ByteArray.mk #[])) = true, true = true, true = true]) := by kernel_rfl
theorem p121_1 (x0 : ByteArray) : runF tab ext121 false 35 [] 2000 [] oks121 kds121 tys121 Tryz.f121.results [false, true, true] [.code b121] (entE 0 0 sig121 (x0, ())) (entL sig121 (x0, ())) = some ([Dyn.mk Ty.bool false], [], [(ByteArray.toList x0 == ByteArray.toList (ByteArray.mk #[])) = false, decide ((↑(ByteArray.size x0) : Int) > 10) = true, true = true]) := by kernel_rfl
theorem p121_2 (x0 : ByteArray) : runF tab ext121 false 35 [] 2000 [] oks121 kds121 tys121 Tryz.f121.results [false, false, true] [.code b121] (entE 0 0 sig121 (x0, ())) (entL sig121 (x0, ())) = some ([Dyn.mk Ty.bool false], [], [(ByteArray.toList x0 == ByteArray.toList (ByteArray.mk #[])) = false, decide ((↑(ByteArray.size x0) : Int) > 10) = false, (0 : Int) ≤ (0 : Int), 0 < (↑(ByteArray.size x0) : Int), True, (!g128_0 (↑(UInt8.toNat (List.getD (Array.toList (ByteArray.data x0)) 0 0)) : Int)) = true]) := by kernel_rfl
theorem p121_3 (x0 : ByteArray) : Am.runN tab ext121 false 35 [] 2000 [] [] [0, 3] [] [false, false, false] [.code b121] (entE 0 0 sig121 (x0, ())) (entL sig121 (x0, ())) = some (cutAt b121 4, E121_4 (0) (x0), L121_4 (0) (x0), [(ByteArray.toList x0 == ByteArray.toList (ByteArray.mk #[])) = false, decide ((↑(ByteArray.size x0) : Int) > 10) = false, (0 : Int) ≤ (0 : Int), 0 < (↑(ByteArray.size x0) : Int), True, (!g128_0 (↑(UInt8.toNat (List.getD (Array.toList (ByteArray.data x0)) 0 0)) : Int)) = false]) := by kernel_rfl
theorem p121_4 (v3 : Int) (x0 : ByteArray) : runF tab ext121 false 35 [] 2000 [] oks121 kds121 tys121 Tryz.f121.results [true, true, true] (cutAt b121 4) (E121_4 v3 x0) (L121_4 v3 x0) = some ([Dyn.mk Ty.bool false], [], [decide (v3 < (↑(ByteArray.size x0) : Int)) = true, 0 ≤ v3, v3 < (↑(ByteArray.size x0) : Int), True, (!g128_0 (↑(UInt8.toNat (List.getD (Array.toList (ByteArray.data x0)) (Int.toNat v3) 0)) : Int)) = true, 0 ≤ v3, v3 < (↑(ByteArray.size x0) : Int), True, (!g129_0 (↑(UInt8.toNat (List.getD (Array.toList (ByteArray.data x0)) (Int.toNat v3) 0)) : Int)) = true]) := by kernel_rfl
theorem p121_5 (v3 : Int) (x0 : ByteArray) : Am.runN tab ext121 false 35 [] 2000 [] [] [0, 3] [] [true, true, false] (cutAt b121 4) (E121_4 v3 x0) (L121_4 v3 x0) = some (cutAt b121 4, E121_4 (v3 + 1) (x0), L121_4 (v3 + 1) (x0), [decide (v3 < (↑(ByteArray.size x0) : Int)) = true, 0 ≤ v3, v3 < (↑(ByteArray.size x0) : Int), True, (!g128_0 (↑(UInt8.toNat (List.getD (Array.toList (ByteArray.data x0)) (Int.toNat v3) 0)) : Int)) = true, 0 ≤ v3, v3 < (↑(ByteArray.size x0) : Int), True, (!g129_0 (↑(UInt8.toNat (List.getD (Array.toList (ByteArray.data x0)) (Int.toNat v3) 0)) : Int)) = false, InR .i64 (v3 + 1)]) := by kernel_rfl
theorem p121_6 (v3 : Int) (x0 : ByteArray) : Am.runN tab ext121 false 35 [] 2000 [] [] [0, 3] [] [true, false, false] (cutAt b121 4) (E121_4 v3 x0) (L121_4 v3 x0) = some (cutAt b121 4, E121_4 (v3 + 1) (x0), L121_4 (v3 + 1) (x0), [decide (v3 < (↑(ByteArray.size x0) : Int)) = true, 0 ≤ v3, v3 < (↑(ByteArray.size x0) : Int), True, (!g128_0 (↑(UInt8.toNat (List.getD (Array.toList (ByteArray.data x0)) (Int.toNat v3) 0)) : Int)) = false, false = false, InR .i64 (v3 + 1)]) := by kernel_rfl
theorem p121_7 (v3 : Int) (x0 : ByteArray) : runF tab ext121 false 35 [] 2000 [] oks121 kds121 tys121 Tryz.f121.results [false] (cutAt b121 4) (E121_4 v3 x0) (L121_4 v3 x0) = some ([Dyn.mk Ty.bool true], [], [decide (v3 < (↑(ByteArray.size x0) : Int)) = false]) := by kernel_rfl
theorem snd121 : ∀ n, (∀ (x0 : ByteArray) ds, R121 n x0 ds → ∀ K q, AtV Tryz.prog 121 (PostR kds121 oks121 ds [] [] q K) 35 K q [] [.code b121] (entE 0 0 sig121 (x0, ())) (entL sig121 (x0, ()))) ∧ (∀ (v3 : Int) (x0 : ByteArray) ds, R121_4 n v3 x0 ds → ∀ K q, AtV Tryz.prog 121 (PostR kds121 oks121 ds [] [] q K) 35 K q [] (cutAt b121 4) (E121_4 v3 x0) (L121_4 v3 x0)) := by
  intro n
  induction n with
  | zero => exact ⟨fun _ _ h => by simp only [R121] at h, fun _ _ _ h => by simp only [R121_4] at h⟩
  | succ n ih =>
  obtain ⟨ih, ih4⟩ := ih
  refine ⟨?_, ?_⟩
  · intro x0 ds h K q
    rw [R121] at h
    by_cases b0 : (ByteArray.toList x0 == ByteArray.toList (ByteArray.mk #[])) = true
    · rw [if_pos b0] at h
      subst h
      exact AtV.fin Tryz.func121 tabOk ext121Ok mixed (p121_0 x0) ⟨b0, rfl, rfl, trivial⟩
    · rw [if_neg b0] at h
      replace b0 := Bool.eq_false_iff.2 b0
      by_cases b1 : (decide ((↑(ByteArray.size x0) : Int) > 10)) = true
      · rw [if_pos b1] at h
        subst h
        exact AtV.fin Tryz.func121 tabOk ext121Ok mixed (p121_1 x0) ⟨b0, b1, rfl, trivial⟩
      · rw [if_neg b1] at h
        replace b1 := Bool.eq_false_iff.2 b1
        obtain ⟨s0, h⟩ := h
        by_cases b2 : (!g128_0 (↑(UInt8.toNat (List.getD (Array.toList (ByteArray.data x0)) 0 0)) : Int)) = true
        · rw [if_pos b2] at h
          subst h
          exact AtV.fin Tryz.func121 tabOk ext121Ok mixed (p121_2 x0) ⟨b0, b1, (by decide), s0, trivial, b2, trivial⟩
        · rw [if_neg b2] at h
          replace b2 := Bool.eq_false_iff.2 b2
          exact AtV.runN tabOk ext121Ok mixed (p121_3 x0) ⟨b0, b1, (by decide), s0, trivial, b2, trivial⟩ (ih4 _ _ _ h K q)

  · intro v3 x0 ds h K q
    rw [R121_4] at h
    by_cases b0 : (decide (v3 < (↑(ByteArray.size x0) : Int))) = true
    · rw [if_pos b0] at h
      obtain ⟨s0, s1, h⟩ := h
      by_cases b1 : (!g128_0 (↑(UInt8.toNat (List.getD (Array.toList (ByteArray.data x0)) (Int.toNat v3) 0)) : Int)) = true
      · rw [if_pos b1] at h
        obtain ⟨s2, s3, h⟩ := h
        by_cases b2 : (!g129_0 (↑(UInt8.toNat (List.getD (Array.toList (ByteArray.data x0)) (Int.toNat v3) 0)) : Int)) = true
        · rw [if_pos b2] at h
          subst h
          exact AtV.fin Tryz.func121 tabOk ext121Ok mixed (p121_4 v3 x0) ⟨b0, s0, s1, trivial, b1, s2, s3, trivial, b2, trivial⟩
        · rw [if_neg b2] at h
          replace b2 := Bool.eq_false_iff.2 b2
          obtain ⟨s4, h⟩ := h
          exact AtV.runN tabOk ext121Ok mixed (p121_5 v3 x0) ⟨b0, s0, s1, trivial, b1, s2, s3, trivial, b2, s4, trivial⟩ (ih4 _ _ _ h K q)
      · rw [if_neg b1] at h
        replace b1 := Bool.eq_false_iff.2 b1
        obtain ⟨s2, h⟩ := h
        exact AtV.runN tabOk ext121Ok mixed (p121_6 v3 x0) ⟨b0, s0, s1, trivial, b1, rfl, s2, trivial⟩ (ih4 _ _ _ h K q)
    · rw [if_neg b0] at h
      replace b0 := Bool.eq_false_iff.2 b0
      subst h
      exact AtV.fin Tryz.func121 tabOk ext121Ok mixed (p121_7 v3 x0) ⟨b0, trivial⟩



def g121_0 (x0 : ByteArray) : Bool := decide (1 ≤ x0.size) && decide (x0.size ≤ 10) && g128_0 ((bytesOf x0).getD 0 0) && (bytesOf x0).all fun b => g128_0 b || g129_0 b
def P121 (x0 : ByteArray) : Prop := True

theorem top121 (x0 : ByteArray) (hw : Wf .str x0) : R121 (x0.size + 1 + 1) x0 [⟨.bool, g121_0 x0⟩] := by
  have hl := bytesOf_length x0
  rw [R121]
  by_cases h0 : x0 = ByteArray.mk #[]
  · rw [if_pos ((bytes_eq _ _).2 h0)]
    subst h0
    rfl
  · rw [if_neg (fun h => h0 ((bytes_eq _ _).1 h))]
    have hs : 1 ≤ x0.size := by
      rcases Nat.lt_or_ge 0 x0.size with h | h
      · exact h
      · exact absurd (bytesOf_inj (s := x0) (t := ByteArray.mk #[]) (List.eq_nil_of_length_eq_zero (by rw [hl]; omega))) h0
    by_cases h1 : (x0.size : Int) > 10
    · rw [if_pos (by simpa using h1)]
      have : ¬ x0.size ≤ 10 := by omega
      simp [g121_0, this]
    · rw [if_neg (by simpa using h1)]
      refine ⟨by omega, ?_⟩
      rw [byte_get]
      cases h2 : g128_0 ((bytesOf x0).getD 0 0) with
      | false =>
        rw [if_pos (by simp)]
        simp [g121_0, h2, -List.getD_eq_getElem?_getD]
      | true =>
        rw [if_neg (by simp)]
        have key := loop_test (bytesOf x0) 0 (fun b => g128_0 b || g129_0 b) [(⟨.bool, false⟩ : Dyn)] [⟨.bool, true⟩] (fun n i ds => R121_4 n i x0 ds) (fun n => ?_) (fun n i hi hok ds hr => ?_) (fun n i hi hok => ?_)
        · rw [hl] at key
          have e : g121_0 x0 = (bytesOf x0).all fun b => g128_0 b || g129_0 b := by
            have : x0.size ≤ 10 := by omega
            unfold g121_0
            simp only [hs, this, decide_true, Bool.true_and, h2]
          rw [e]
          cases h : (bytesOf x0).all fun b => g128_0 b || g129_0 b with
          | true => rw [if_pos h] at key; exact key
          | false => rw [if_neg (by rw [h]; simp)] at key; exact key
        · show R121_4 (n + 1) ((bytesOf x0).length : Int) x0 _
          rw [R121_4, hl, if_neg (by simp)]
        · rw [R121_4, if_pos (by simp; omega)]
          simp only [Int.toNat_natCast, byte_get]
          generalize (bytesOf x0).getD i 0 = c at *
          refine ⟨by omega, by omega, ?_⟩
          have hu := inR_up (xs := bytesOf x0) (by rw [hl]; exact hw) hi
          cases h3 : g128_0 c with
          | true => rw [if_neg (by simp)]; exact ⟨hu, hr⟩
          | false =>
            rw [if_pos (by simp)]
            rw [h3, Bool.false_or] at hok
            refine ⟨by omega, by omega, ?_⟩
            rw [if_neg (by rw [hok]; simp)]
            exact ⟨hu, hr⟩
        · simp only [Bool.or_eq_false_iff] at hok
          rw [R121_4, if_pos (by simp; omega)]
          simp only [Int.toNat_natCast, byte_get]
          refine ⟨by omega, by omega, ?_⟩
          rw [if_pos (by rw [hok.1]; rfl)]
          refine ⟨by omega, by omega, ?_⟩
          rw [if_pos (by rw [hok.2]; rfl)] <;> trivial

def S121 : Am.Spec := { sig := sig121, pre := fun ⟨x0, _⟩ => P121 x0, res := fun ⟨x0, _⟩ => [⟨Ty.bool, g121_0 x0⟩] }
theorem con121 : Contract Tryz.prog 121 S121 := contract_of Tryz.func121 hb121 (Nat.le_of_ble_eq_true (by kernel_rfl)) (fun ⟨x0, _⟩ h hwf K q =>
  (snd121 _).1 x0 _ (top121 x0 hwf.1) K q)

end
end Go.Proofs.YtcakiedjgnhjcaaGreat

/- Function 103 (spec.l00In): its runs between cut points. Written by a program of this repo (gen). -/
set_option linter.unusedVariables false
set_option linter.unusedSimpArgs false
set_option maxRecDepth 100000
namespace Go.Proofs.YtcakiedjgnhjcaaGreat
open Go Go.Am Go.Proofs
noncomputable section
def ext103 : Ext := []
theorem ext103Ok : ExtOk Tryz.prog ext103 := trivial

noncomputable def b103 : Code := bodyOf Tryz.f103
theorem hb103 : Tryz.f103.body = some b103 := by kernel_rfl
def sig103 : List AT := [AT.v (Ty.int .i64), AT.v (Ty.int .i64), AT.v (Ty.int .i64)]
def tys103 : List Ty := [Ty.bool]
def kds103 : List RK := []
def oks103 : List AT := owns sig103
def P103 (x0 : Int) (x1 : Int) (x2 : Int) : Prop := True
def g103_0 (x0 : Int) (x1 : Int) (x2 : Int) : Bool := (if (decide (x0 ≥ x1)) = true then decide (x0 ≤ x2) else false)
theorem p103_0 (x0 : Int) (x1 : Int) (x2 : Int) : runF tab ext103 false 15 [] 2000 [] oks103 kds103 tys103 Tryz.f103.results [true] [.code b103] (entE 0 0 sig103 (x0, x1, x2, ())) (entL sig103 (x0, x1, x2, ())) = some ([Dyn.mk Ty.bool (decide (x0 ≤ x2))], [], [decide (x0 ≥ x1) = true]) := by kernel_rfl
theorem p103_1 (x0 : Int) (x1 : Int) (x2 : Int) : runF tab ext103 false 15 [] 2000 [] oks103 kds103 tys103 Tryz.f103.results [false] [.code b103] (entE 0 0 sig103 (x0, x1, x2, ())) (entL sig103 (x0, x1, x2, ())) = some ([Dyn.mk Ty.bool false], [], [decide (x0 ≥ x1) = false]) := by kernel_rfl
theorem at103 (x0 : Int) (x1 : Int) (x2 : Int) (h : P103 x0 x1 x2) (K : Ctx) (q : Nat → Value) : AtV Tryz.prog 103 (PostR kds103 oks103 [⟨Ty.bool, g103_0 x0 x1 x2⟩] [] [] q K) 15 K q [] [.code b103] (entE 0 0 sig103 (x0, x1, x2, ())) (entL sig103 (x0, x1, x2, ())) := by
  unfold P103 at h
  unfold g103_0
  by_cases b0 : (decide (x0 ≥ x1)) = true
  · try simp only [if_pos b0] at h ⊢
    exact AtV.fin Tryz.func103 tabOk ext103Ok mixed (p103_0 x0 x1 x2) ⟨b0, trivial⟩
  · try simp only [if_neg b0] at h ⊢
    replace b0 := Bool.eq_false_iff.2 b0
    exact AtV.fin Tryz.func103 tabOk ext103Ok mixed (p103_1 x0 x1 x2) ⟨b0, trivial⟩

def S103 : Am.Spec := { sig := sig103, pre := fun ⟨x0, x1, x2, _⟩ => P103 x0 x1 x2, res := fun ⟨x0, x1, x2, _⟩ => [⟨Ty.bool, g103_0 x0 x1 x2⟩], kds := kds103 }
theorem con103 : Contract Tryz.prog 103 S103 := contract_of Tryz.func103 hb103 (Nat.le_of_ble_eq_true (by kernel_rfl)) (fun ⟨x0, x1, x2, _⟩ h _ K q => at103 x0 x1 x2 h K q)


end
end Go.Proofs.YtcakiedjgnhjcaaGreat

/- Function 122 (spec.l04Cant): its runs between cut points. Written by a program of this repo (gen). -/
set_option linter.unusedVariables false
set_option linter.unusedSimpArgs false
set_option maxRecDepth 100000
namespace Go.Proofs.YtcakiedjgnhjcaaGreat
open Go Go.Am Go.Proofs
noncomputable section
def ext122 : Ext := [(103, S103)]
theorem call122_103 : Callable Tryz.prog 103 := ⟨Tryz.f103, Tryz.func103, by kernel_rfl, by kernel_rfl⟩
theorem ext122Ok : ExtOk Tryz.prog ext122 := ⟨⟨call122_103, con103⟩, trivial⟩

noncomputable def b122 : Code := bodyOf Tryz.f122
theorem hb122 : Tryz.f122.body = some b122 := by kernel_rfl
def sig122 : List AT := [AT.v (Ty.int .i64)]
def tys122 : List Ty := [Ty.bool]
def kds122 : List RK := []
def oks122 : List AT := owns sig122
def P122 (x0 : Int) : Prop := True
def g122_0 (x0 : Int) : Bool := g103_0 x0 0 200
theorem p122_0 (x0 : Int) : runF tab ext122 false 5 [] 2000 [] oks122 kds122 tys122 Tryz.f122.results [] [.code b122] (entE 0 0 sig122 (x0, ())) (entL sig122 (x0, ())) = some ([Dyn.mk Ty.bool (g103_0 x0 0 200)], [], [True]) := by kernel_rfl
theorem at122 (x0 : Int) (h : P122 x0) (K : Ctx) (q : Nat → Value) : AtV Tryz.prog 122 (PostR kds122 oks122 [⟨Ty.bool, g122_0 x0⟩] [] [] q K) 5 K q [] [.code b122] (entE 0 0 sig122 (x0, ())) (entL sig122 (x0, ())) := by
  unfold P122 at h
  unfold g122_0
  exact AtV.fin Tryz.func122 tabOk ext122Ok mixed (p122_0 x0) ⟨trivial, trivial⟩

def S122 : Am.Spec := { sig := sig122, pre := fun ⟨x0, _⟩ => P122 x0, res := fun ⟨x0, _⟩ => [⟨Ty.bool, g122_0 x0⟩], kds := kds122 }
theorem con122 : Contract Tryz.prog 122 S122 := contract_of Tryz.func122 hb122 (Nat.le_of_ble_eq_true (by kernel_rfl)) (fun ⟨x0, _⟩ h _ K q => at122 x0 h K q)


end
end Go.Proofs.YtcakiedjgnhjcaaGreat

/- Function 102 (spec.l04One): its runs between cut points. Written by a program of this repo (gen). -/
set_option linter.unusedVariables false
set_option linter.unusedSimpArgs false
set_option maxRecDepth 100000
namespace Go.Proofs.YtcakiedjgnhjcaaGreat
open Go Go.Am Go.Proofs
noncomputable section
def ext102 : Ext := [(121, S121), (103, S103), (122, S122)]
theorem call102_121 : Callable Tryz.prog 121 := ⟨Tryz.f121, Tryz.func121, by kernel_rfl, by kernel_rfl⟩
theorem call102_103 : Callable Tryz.prog 103 := ⟨Tryz.f103, Tryz.func103, by kernel_rfl, by kernel_rfl⟩
theorem call102_122 : Callable Tryz.prog 122 := ⟨Tryz.f122, Tryz.func122, by kernel_rfl, by kernel_rfl⟩
theorem ext102Ok : ExtOk Tryz.prog ext102 := ⟨⟨call102_121, con121⟩, ⟨call102_103, con103⟩, ⟨call102_122, con122⟩, trivial⟩

noncomputable def b102 : Code := bodyOf Tryz.f102
theorem hb102 : Tryz.f102.body = some b102 := by kernel_rfl
def sig102 : List AT := [AT.p (Ty.cons Ty.str (Ty.cons (Ty.int .i64) (Ty.cons (Ty.int .i64) (Ty.cons (Ty.int .i64) Ty.unit))))]
def tys102 : List Ty := [Ty.bool]
def kds102 : List RK := []
def oks102 : List AT := owns sig102
def P102 (x0 : ByteArray × Int × Int × Int × Unit) : Prop := True
def g102_0 (x0 : ByteArray × Int × Int × Int × Unit) : Bool := (if (g121_0 x0.1) = true then (if (g103_0 x0.2.1 10000 10000000) = true then (if (g103_0 x0.2.2.1 1000 1000000) = true then g122_0 x0.2.2.2.1 else false) else false) else false)
theorem p102_0 (x0 : ByteArray × Int × Int × Int × Unit) : runF tab ext102 false 29 [] 2000 [] oks102 kds102 tys102 Tryz.f102.results [true, true, true] [.code b102] (entE 0 0 sig102 (x0, ())) (entL sig102 (x0, ())) = some ([Dyn.mk Ty.bool (g122_0 x0.2.2.2.1)], [], [True, g121_0 x0.1 = true, True, g103_0 x0.2.1 10000 10000000 = true, True, g103_0 x0.2.2.1 1000 1000000 = true, True]) := by kernel_rfl
theorem p102_1 (x0 : ByteArray × Int × Int × Int × Unit) : runF tab ext102 false 29 [] 2000 [] oks102 kds102 tys102 Tryz.f102.results [true, true, false] [.code b102] (entE 0 0 sig102 (x0, ())) (entL sig102 (x0, ())) = some ([Dyn.mk Ty.bool false], [], [True, g121_0 x0.1 = true, True, g103_0 x0.2.1 10000 10000000 = true, True, g103_0 x0.2.2.1 1000 1000000 = false]) := by kernel_rfl
theorem p102_2 (x0 : ByteArray × Int × Int × Int × Unit) : runF tab ext102 false 29 [] 2000 [] oks102 kds102 tys102 Tryz.f102.results [true, false, false] [.code b102] (entE 0 0 sig102 (x0, ())) (entL sig102 (x0, ())) = some ([Dyn.mk Ty.bool false], [], [True, g121_0 x0.1 = true, True, g103_0 x0.2.1 10000 10000000 = false, false = false]) := by kernel_rfl
theorem p102_3 (x0 : ByteArray × Int × Int × Int × Unit) : runF tab ext102 false 29 [] 2000 [] oks102 kds102 tys102 Tryz.f102.results [false, false, false] [.code b102] (entE 0 0 sig102 (x0, ())) (entL sig102 (x0, ())) = some ([Dyn.mk Ty.bool false], [], [True, g121_0 x0.1 = false, false = false, false = false]) := by kernel_rfl
theorem at102 (x0 : ByteArray × Int × Int × Int × Unit) (h : P102 x0) (K : Ctx) (q : Nat → Value) : AtV Tryz.prog 102 (PostR kds102 oks102 [⟨Ty.bool, g102_0 x0⟩] [] [] q K) 29 K q [] [.code b102] (entE 0 0 sig102 (x0, ())) (entL sig102 (x0, ())) := by
  unfold P102 at h
  unfold g102_0
  by_cases b0 : (g121_0 x0.1) = true
  · try simp only [if_pos b0] at h ⊢
    by_cases b1 : (g103_0 x0.2.1 10000 10000000) = true
    · try simp only [if_pos b1] at h ⊢
      by_cases b2 : (g103_0 x0.2.2.1 1000 1000000) = true
      · try simp only [if_pos b2] at h ⊢
        exact AtV.fin Tryz.func102 tabOk ext102Ok mixed (p102_0 x0) ⟨trivial, b0, trivial, b1, trivial, b2, trivial, trivial⟩
      · try simp only [if_neg b2] at h ⊢
        replace b2 := Bool.eq_false_iff.2 b2
        exact AtV.fin Tryz.func102 tabOk ext102Ok mixed (p102_1 x0) ⟨trivial, b0, trivial, b1, trivial, b2, trivial⟩
    · try simp only [if_neg b1] at h ⊢
      replace b1 := Bool.eq_false_iff.2 b1
      exact AtV.fin Tryz.func102 tabOk ext102Ok mixed (p102_2 x0) ⟨trivial, b0, trivial, b1, rfl, trivial⟩
  · try simp only [if_neg b0] at h ⊢
    replace b0 := Bool.eq_false_iff.2 b0
    exact AtV.fin Tryz.func102 tabOk ext102Ok mixed (p102_3 x0) ⟨trivial, b0, rfl, rfl, trivial⟩

def S102 : Am.Spec := { sig := sig102, pre := fun ⟨x0, _⟩ => P102 x0, res := fun ⟨x0, _⟩ => [⟨Ty.bool, g102_0 x0⟩], kds := kds102 }
theorem con102 : Contract Tryz.prog 102 S102 := contract_of Tryz.func102 hb102 (Nat.le_of_ble_eq_true (by kernel_rfl)) (fun ⟨x0, _⟩ h _ K q => at102 x0 h K q)


end
end Go.Proofs.YtcakiedjgnhjcaaGreat

/- Function 59 (spec.l04Ok): its runs between cut points. Written by a program of this repo (gen). -/
set_option linter.unusedVariables false
set_option linter.unusedSimpArgs false
set_option maxRecDepth 100000
namespace Go.Proofs.YtcakiedjgnhjcaaGreat
open Go Go.Am Go.Proofs
noncomputable section
def ext59 : Ext := [(102, S102)]
theorem call59_102 : Callable Tryz.prog 102 := ⟨Tryz.f102, Tryz.func102, by kernel_rfl, by kernel_rfl⟩
theorem ext59Ok : ExtOk Tryz.prog ext59 := ⟨⟨call59_102, con102⟩, trivial⟩

noncomputable def b59 : Code := bodyOf Tryz.f59
theorem hb59 : Tryz.f59.body = some b59 := by kernel_rfl
def sig59 : List AT := [AT.v (Ty.sl (Ty.cons Ty.str (Ty.cons (Ty.int .i64) (Ty.cons (Ty.int .i64) (Ty.cons (Ty.int .i64) Ty.unit)))))]
def tys59 : List Ty := [Ty.bool]
def kds59 : List RK := []
def oks59 : List AT := owns sig59
def E59_2 (v3 : Int) (x0 : List TyB0) : Env := [(0, PV.a (Atom.sl (Ty.cons Ty.str (Ty.cons (Ty.int .i64) (Ty.cons (Ty.int .i64) (Ty.cons (Ty.int .i64) Ty.unit)))) x0)), (3, PV.a (Atom.val (Value.int .i64 v3)))]
def L59_2 (v3 : Int) (x0 : List TyB0) : Heap := []
mutual
def R59 : Nat → List TyB0 → List Dyn → Prop
  | 0, _, _ => False
  | n + 1, x0, ds => (R59_2 n (0) (x0) ds)
def R59_2 : Nat → Int → List TyB0 → List Dyn → Prop
  | 0, _, _, _ => False
  | n + 1, v3, x0, ds => (if (decide (v3 < (↑(List.length x0) : Int))) = true then ((0 ≤ v3) ∧ (v3 < (↑(List.length x0) : Int)) ∧ (if (!g102_0 (List.getD x0 (Int.toNat v3) (ByteArray.empty, 0, 0, 0, ()))) = true then (ds = [Dyn.mk Ty.bool false]) else (if (decide (v3 > 0)) = true then ((InR .i64 (v3 - 1)) ∧ ((0 ≤ v3 - 1) ∧ (v3 - 1 < (↑(List.length x0) : Int)) ∧ ((0 ≤ v3) ∧ (v3 < (↑(List.length x0) : Int)) ∧ (if (!Op.bytesLess (ByteArray.toList (List.getD x0 (Int.toNat (v3 - 1)) (ByteArray.empty, 0, 0, 0, ())).1) (ByteArray.toList (List.getD x0 (Int.toNat v3) (ByteArray.empty, 0, 0, 0, ())).1)) = true then (ds = [Dyn.mk Ty.bool false]) else ((InR .i64 (v3 + 1)) ∧ (R59_2 n (v3 + 1) (x0) ds)))))) else ((InR .i64 (v3 + 1)) ∧ (R59_2 n (v3 + 1) (x0) ds))))) else (ds = [Dyn.mk Ty.bool (decide ((↑(List.length x0) : Int) ≤ 12))]))
end
theorem p59_0 (x0 : List TyB0) : Am.runN tab ext59 false 36 [] 2000 [] [] [0, 3] [] [] [.code b59] (entE 0 0 sig59 (x0, ())) (entL sig59 (x0, ())) = some (cutAt b59 2, E59_2 (0) (x0), L59_2 (0) (x0), []) := by kernel_rfl
theorem p59_1 (v3 : Int) (x0 : List TyB0) : runF tab ext59 false 36 [] 2000 [] oks59 kds59 tys59 Tryz.f59.results [true, true, true] (cutAt b59 2) (E59_2 v3 x0) (L59_2 v3 x0) = some ([Dyn.mk Ty.bool false], [], [decide (v3 < (↑(List.length x0) : Int)) = true, 0 ≤ v3, v3 < (↑(List.length x0) : Int), True, (!g102_0 (List.getD x0 (Int.toNat v3) (ByteArray.empty, 0, 0, 0, ()))) = true, true = true]) := by kernel_rfl
theorem p59_2 (v3 : Int) (x0 : List TyB0) : runF tab ext59 false 36 [] 2000 [] oks59 kds59 tys59 Tryz.f59.results [true, false, true, true] (cutAt b59 2) (E59_2 v3 x0) (L59_2 v3 x0) = some ([Dyn.mk Ty.bool false], [], [decide (v3 < (↑(List.length x0) : Int)) = true, 0 ≤ v3, v3 < (↑(List.length x0) : Int), True, (!g102_0 (List.getD x0 (Int.toNat v3) (ByteArray.empty, 0, 0, 0, ()))) = false, decide (v3 > 0) = true, InR .i64 (v3 - 1), 0 ≤ v3 - 1, v3 - 1 < (↑(List.length x0) : Int), 0 ≤ v3, v3 < (↑(List.length x0) : Int), (!Op.bytesLess (ByteArray.toList (List.getD x0 (Int.toNat (v3 - 1)) (ByteArray.empty, 0, 0, 0, ())).1) (ByteArray.toList (List.getD x0 (Int.toNat v3) (ByteArray.empty, 0, 0, 0, ())).1)) = true]) := by kernel_rfl
theorem p59_3 (v3 : Int) (x0 : List TyB0) : Am.runN tab ext59 false 36 [] 2000 [] [] [0, 3] [] [true, false, true, false] (cutAt b59 2) (E59_2 v3 x0) (L59_2 v3 x0) = some (cutAt b59 2, E59_2 (v3 + 1) (x0), L59_2 (v3 + 1) (x0), [decide (v3 < (↑(List.length x0) : Int)) = true, 0 ≤ v3, v3 < (↑(List.length x0) : Int), True, (!g102_0 (List.getD x0 (Int.toNat v3) (ByteArray.empty, 0, 0, 0, ()))) = false, decide (v3 > 0) = true, InR .i64 (v3 - 1), 0 ≤ v3 - 1, v3 - 1 < (↑(List.length x0) : Int), 0 ≤ v3, v3 < (↑(List.length x0) : Int), (!Op.bytesLess (ByteArray.toList (List.getD x0 (Int.toNat (v3 - 1)) (ByteArray.empty, 0, 0, 0, ())).1) (ByteArray.toList (List.getD x0 (Int.toNat v3) (ByteArray.empty, 0, 0, 0, ())).1)) = false, InR .i64 (v3 + 1)]) := by kernel_rfl
theorem p59_4 (v3 : Int) (x0 : List TyB0) : Am.runN tab ext59 false 36 [] 2000 [] [] [0, 3] [] [true, false, false, false] (cutAt b59 2) (E59_2 v3 x0) (L59_2 v3 x0) = some (cutAt b59 2, E59_2 (v3 + 1) (x0), L59_2 (v3 + 1) (x0), [decide (v3 < (↑(List.length x0) : Int)) = true, 0 ≤ v3, v3 < (↑(List.length x0) : Int), True, (!g102_0 (List.getD x0 (Int.toNat v3) (ByteArray.empty, 0, 0, 0, ()))) = false, decide (v3 > 0) = false, false = false, InR .i64 (v3 + 1)]) := by kernel_rfl
theorem p59_5 (v3 : Int) (x0 : List TyB0) : runF tab ext59 false 36 [] 2000 [] oks59 kds59 tys59 Tryz.f59.results [false] (cutAt b59 2) (E59_2 v3 x0) (L59_2 v3 x0) = some ([Dyn.mk Ty.bool (decide ((↑(List.length x0) : Int) ≤ 12))], [], [decide (v3 < (↑(List.length x0) : Int)) = false]) := by kernel_rfl
theorem snd59 : ∀ n, (∀ (x0 : List TyB0) ds, R59 n x0 ds → ∀ K q, AtV Tryz.prog 59 (PostR kds59 oks59 ds [] [] q K) 36 K q [] [.code b59] (entE 0 0 sig59 (x0, ())) (entL sig59 (x0, ()))) ∧ (∀ (v3 : Int) (x0 : List TyB0) ds, R59_2 n v3 x0 ds → ∀ K q, AtV Tryz.prog 59 (PostR kds59 oks59 ds [] [] q K) 36 K q [] (cutAt b59 2) (E59_2 v3 x0) (L59_2 v3 x0)) := by
  intro n
  induction n with
  | zero => exact ⟨fun _ _ h => by simp only [R59] at h, fun _ _ _ h => by simp only [R59_2] at h⟩
  | succ n ih =>
  obtain ⟨ih, ih2⟩ := ih
  refine ⟨?_, ?_⟩
  · intro x0 ds h K q
    rw [R59] at h
    exact AtV.runN tabOk ext59Ok mixed (p59_0 x0) trivial (ih2 _ _ _ h K q)

  · intro v3 x0 ds h K q
    rw [R59_2] at h
    by_cases b0 : (decide (v3 < (↑(List.length x0) : Int))) = true
    · rw [if_pos b0] at h
      obtain ⟨s0, s1, h⟩ := h
      by_cases b1 : (!g102_0 (List.getD x0 (Int.toNat v3) (ByteArray.empty, 0, 0, 0, ()))) = true
      · rw [if_pos b1] at h
        subst h
        exact AtV.fin Tryz.func59 tabOk ext59Ok mixed (p59_1 v3 x0) ⟨b0, s0, s1, trivial, b1, rfl, trivial⟩
      · rw [if_neg b1] at h
        replace b1 := Bool.eq_false_iff.2 b1
        by_cases b2 : (decide (v3 > 0)) = true
        · rw [if_pos b2] at h
          obtain ⟨s2, h⟩ := h
          obtain ⟨s3, s4, h⟩ := h
          obtain ⟨s5, s6, h⟩ := h
          by_cases b3 : (!Op.bytesLess (ByteArray.toList (List.getD x0 (Int.toNat (v3 - 1)) (ByteArray.empty, 0, 0, 0, ())).1) (ByteArray.toList (List.getD x0 (Int.toNat v3) (ByteArray.empty, 0, 0, 0, ())).1)) = true
          · rw [if_pos b3] at h
            subst h
            exact AtV.fin Tryz.func59 tabOk ext59Ok mixed (p59_2 v3 x0) ⟨b0, s0, s1, trivial, b1, b2, s2, s3, s4, s5, s6, b3, trivial⟩
          · rw [if_neg b3] at h
            replace b3 := Bool.eq_false_iff.2 b3
            obtain ⟨s7, h⟩ := h
            exact AtV.runN tabOk ext59Ok mixed (p59_3 v3 x0) ⟨b0, s0, s1, trivial, b1, b2, s2, s3, s4, s5, s6, b3, s7, trivial⟩ (ih2 _ _ _ h K q)
        · rw [if_neg b2] at h
          replace b2 := Bool.eq_false_iff.2 b2
          obtain ⟨s2, h⟩ := h
          exact AtV.runN tabOk ext59Ok mixed (p59_4 v3 x0) ⟨b0, s0, s1, trivial, b1, b2, rfl, s2, trivial⟩ (ih2 _ _ _ h K q)
    · rw [if_neg b0] at h
      replace b0 := Bool.eq_false_iff.2 b0
      subst h
      exact AtV.fin Tryz.func59 tabOk ext59Ok mixed (p59_5 v3 x0) ⟨b0, trivial⟩



def ok59 (x0 : List TyB0) (i : Nat) (x : TyB0) : Bool :=
  g102_0 x && (i == 0 || Op.bytesLess (ByteArray.toList (x0.getD (i - 1) (ByteArray.empty, (0 : Int), (0 : Int), (0 : Int), ())).1) (ByteArray.toList x.1))
def g59_0 (x0 : List TyB0) : Bool := allI (ok59 x0) 0 x0 && decide (x0.length ≤ 12)
def P59 (x0 : List TyB0) : Prop := True

theorem step59 (n i : Nat) (x0 : List TyB0) (hm : x0.length ≤ maxLen) (hi : i < x0.length) (ds : List Dyn) :
    (if ok59 x0 i (x0.getD i (ByteArray.empty, (0 : Int), (0 : Int), (0 : Int), ())) = true then R59_2 n ((i : Int) + 1) x0 ds else ds = [⟨.bool, false⟩]) → R59_2 (n + 1) (i : Int) x0 ds := by
  intro h
  have hu := inR_up hm hi
  rw [R59_2, if_pos (by simp; omega)]
  refine ⟨by omega, by omega, ?_⟩
  simp only [Int.toNat_natCast]
  unfold ok59 at h
  cases h1 : g102_0 (x0.getD i (ByteArray.empty, (0 : Int), (0 : Int), (0 : Int), ())) with
  | false =>
    rw [h1] at h
    rw [if_pos (by rfl)]
    simpa using h
  | true =>
    rw [h1] at h
    rw [if_neg (by simp)]
    by_cases h0 : (i : Int) > 0
    · rw [if_pos (by simpa using h0)]
      have hi0 : (i == 0) = false := by simp; omega
      have e : ((i : Int) - 1).toNat = i - 1 := by omega
      refine ⟨by rw [i64_iff]; have : maxLen ≤ 9223372036854775807 := by decide
                 omega, by omega, by omega, by omega, by omega, ?_⟩
      rw [e]
      by_cases h2 : Op.bytesLess (ByteArray.toList (x0.getD (i - 1) (ByteArray.empty, (0 : Int), (0 : Int), (0 : Int), ())).1) (ByteArray.toList (x0.getD i (ByteArray.empty, (0 : Int), (0 : Int), (0 : Int), ())).1) = true
      · rw [h2, hi0] at h
        rw [if_neg (by rw [h2]; simp)]
        exact ⟨hu, by simpa using h⟩
      · have h2 := Bool.eq_false_iff.2 h2
        rw [h2, hi0] at h
        rw [if_pos (by rw [h2]; rfl)]
        simpa using h
    · rw [if_neg (by simpa using h0)]
      have hi0 : (i == 0) = true := by simp; omega
      rw [hi0] at h
      exact ⟨hu, by simpa using h⟩

theorem top59 (x0 : List TyB0) (hw : x0.length ≤ maxLen) : R59 (x0.length + 1 + 1) x0 [⟨.bool, g59_0 x0⟩] := by
  rw [R59]
  have key := loop_testI x0 (ByteArray.empty, (0 : Int), (0 : Int), (0 : Int), ()) (ok59 x0) [(⟨.bool, false⟩ : Dyn)] [⟨.bool, decide (x0.length ≤ 12)⟩] (fun n i ds => R59_2 n i x0 ds) (fun n => ?_) (fun n i hi hok ds hr => ?_) (fun n i hi hok => ?_)
  · unfold g59_0
    cases h : allI (ok59 x0) 0 x0 with
    | true => rw [if_pos h] at key; simpa using key
    | false => rw [if_neg (by rw [h]; simp)] at key; simpa using key
  · rw [R59_2, if_neg (by simp)]
    have hc : decide ((x0.length : Int) ≤ 12) = decide (x0.length ≤ 12) := by
      congr 1; exact propext ⟨fun h => by omega, fun h => by omega⟩
    rw [hc]
  · exact step59 n i x0 hw hi ds (by rw [if_pos hok]; exact hr)
  · exact step59 n i x0 hw hi _ (by rw [if_neg (by rw [hok]; simp)])

def S59 : Am.Spec := { sig := sig59, pre := fun ⟨x0, _⟩ => P59 x0, res := fun ⟨x0, _⟩ => [⟨Ty.bool, g59_0 x0⟩] }
theorem con59 : Contract Tryz.prog 59 S59 := contract_of Tryz.func59 hb59 (Nat.le_of_ble_eq_true (by kernel_rfl)) (fun ⟨x0, _⟩ h hwf K q =>
  (snd59 _).1 x0 _ (top59 x0 hwf.1.1) K q)

end
end Go.Proofs.YtcakiedjgnhjcaaGreat

/- Function 60 (spec.l06Ok): its runs between cut points. Written by a program of this repo (gen). -/
set_option linter.unusedVariables false
set_option linter.unusedSimpArgs false
set_option maxRecDepth 100000
namespace Go.Proofs.YtcakiedjgnhjcaaGreat
open Go Go.Am Go.Proofs
noncomputable section
def ext60 : Ext := [(103, S103)]
theorem call60_103 : Callable Tryz.prog 103 := ⟨Tryz.f103, Tryz.func103, by kernel_rfl, by kernel_rfl⟩
theorem ext60Ok : ExtOk Tryz.prog ext60 := ⟨⟨call60_103, con103⟩, trivial⟩

noncomputable def b60 : Code := bodyOf Tryz.f60
theorem hb60 : Tryz.f60.body = some b60 := by kernel_rfl
def sig60 : List AT := [AT.p (Ty.cons (Ty.int .i64) (Ty.cons (Ty.int .i64) (Ty.cons (Ty.int .i64) (Ty.cons (Ty.int .i64) Ty.unit))))]
def tys60 : List Ty := [Ty.bool]
def kds60 : List RK := []
def oks60 : List AT := owns sig60
def P60 (x0 : Int × Int × Int × Int × Unit) : Prop := True
def g60_0 (x0 : Int × Int × Int × Int × Unit) : Bool := (if (g103_0 x0.1 1000 4000000) = true then (if (g103_0 x0.2.1 100 20000) = true then (if (g103_0 x0.2.2.1 6 400) = true then g103_0 x0.2.2.2.1 1000 10000000 else false) else false) else false)
theorem p60_0 (x0 : Int × Int × Int × Int × Unit) : runF tab ext60 false 29 [] 2000 [] oks60 kds60 tys60 Tryz.f60.results [true, true, true] [.code b60] (entE 0 0 sig60 (x0, ())) (entL sig60 (x0, ())) = some ([Dyn.mk Ty.bool (g103_0 x0.2.2.2.1 1000 10000000)], [], [True, g103_0 x0.1 1000 4000000 = true, True, g103_0 x0.2.1 100 20000 = true, True, g103_0 x0.2.2.1 6 400 = true, True]) := by kernel_rfl
theorem p60_1 (x0 : Int × Int × Int × Int × Unit) : runF tab ext60 false 29 [] 2000 [] oks60 kds60 tys60 Tryz.f60.results [true, true, false] [.code b60] (entE 0 0 sig60 (x0, ())) (entL sig60 (x0, ())) = some ([Dyn.mk Ty.bool false], [], [True, g103_0 x0.1 1000 4000000 = true, True, g103_0 x0.2.1 100 20000 = true, True, g103_0 x0.2.2.1 6 400 = false]) := by kernel_rfl
theorem p60_2 (x0 : Int × Int × Int × Int × Unit) : runF tab ext60 false 29 [] 2000 [] oks60 kds60 tys60 Tryz.f60.results [true, false, false] [.code b60] (entE 0 0 sig60 (x0, ())) (entL sig60 (x0, ())) = some ([Dyn.mk Ty.bool false], [], [True, g103_0 x0.1 1000 4000000 = true, True, g103_0 x0.2.1 100 20000 = false, false = false]) := by kernel_rfl
theorem p60_3 (x0 : Int × Int × Int × Int × Unit) : runF tab ext60 false 29 [] 2000 [] oks60 kds60 tys60 Tryz.f60.results [false, false, false] [.code b60] (entE 0 0 sig60 (x0, ())) (entL sig60 (x0, ())) = some ([Dyn.mk Ty.bool false], [], [True, g103_0 x0.1 1000 4000000 = false, false = false, false = false]) := by kernel_rfl
theorem at60 (x0 : Int × Int × Int × Int × Unit) (h : P60 x0) (K : Ctx) (q : Nat → Value) : AtV Tryz.prog 60 (PostR kds60 oks60 [⟨Ty.bool, g60_0 x0⟩] [] [] q K) 29 K q [] [.code b60] (entE 0 0 sig60 (x0, ())) (entL sig60 (x0, ())) := by
  unfold P60 at h
  unfold g60_0
  by_cases b0 : (g103_0 x0.1 1000 4000000) = true
  · try simp only [if_pos b0] at h ⊢
    by_cases b1 : (g103_0 x0.2.1 100 20000) = true
    · try simp only [if_pos b1] at h ⊢
      by_cases b2 : (g103_0 x0.2.2.1 6 400) = true
      · try simp only [if_pos b2] at h ⊢
        exact AtV.fin Tryz.func60 tabOk ext60Ok mixed (p60_0 x0) ⟨trivial, b0, trivial, b1, trivial, b2, trivial, trivial⟩
      · try simp only [if_neg b2] at h ⊢
        replace b2 := Bool.eq_false_iff.2 b2
        exact AtV.fin Tryz.func60 tabOk ext60Ok mixed (p60_1 x0) ⟨trivial, b0, trivial, b1, trivial, b2, trivial⟩
    · try simp only [if_neg b1] at h ⊢
      replace b1 := Bool.eq_false_iff.2 b1
      exact AtV.fin Tryz.func60 tabOk ext60Ok mixed (p60_2 x0) ⟨trivial, b0, trivial, b1, rfl, trivial⟩
  · try simp only [if_neg b0] at h ⊢
    replace b0 := Bool.eq_false_iff.2 b0
    exact AtV.fin Tryz.func60 tabOk ext60Ok mixed (p60_3 x0) ⟨trivial, b0, rfl, rfl, trivial⟩

def S60 : Am.Spec := { sig := sig60, pre := fun ⟨x0, _⟩ => P60 x0, res := fun ⟨x0, _⟩ => [⟨Ty.bool, g60_0 x0⟩], kds := kds60 }
theorem con60 : Contract Tryz.prog 60 S60 := contract_of Tryz.func60 hb60 (Nat.le_of_ble_eq_true (by kernel_rfl)) (fun ⟨x0, _⟩ h _ K q => at60 x0 h K q)


end
end Go.Proofs.YtcakiedjgnhjcaaGreat

/- Function 104 (spec.l08One): its runs between cut points. Written by a program of this repo (gen). -/
set_option linter.unusedVariables false
set_option linter.unusedSimpArgs false
set_option maxRecDepth 100000
namespace Go.Proofs.YtcakiedjgnhjcaaGreat
open Go Go.Am Go.Proofs
noncomputable section
def ext104 : Ext := [(103, S103)]
theorem call104_103 : Callable Tryz.prog 103 := ⟨Tryz.f103, Tryz.func103, by kernel_rfl, by kernel_rfl⟩
theorem ext104Ok : ExtOk Tryz.prog ext104 := ⟨⟨call104_103, con103⟩, trivial⟩

noncomputable def b104 : Code := bodyOf Tryz.f104
theorem hb104 : Tryz.f104.body = some b104 := by kernel_rfl
def sig104 : List AT := [AT.p (Ty.cons (Ty.int .i64) (Ty.cons (Ty.int .i64) (Ty.cons (Ty.int .i64) Ty.unit)))]
def tys104 : List Ty := [Ty.bool]
def kds104 : List RK := []
def oks104 : List AT := owns sig104
def P104 (x0 : Int × Int × Int × Unit) : Prop := True
def g104_0 (x0 : Int × Int × Int × Unit) : Bool := (if (g103_0 x0.1 0 1000) = true then (if (g103_0 x0.2.1 (-400) 500) = true then g103_0 x0.2.2.1 0 1000 else false) else false)
theorem p104_0 (x0 : Int × Int × Int × Unit) : runF tab ext104 false 22 [] 2000 [] oks104 kds104 tys104 Tryz.f104.results [true, true] [.code b104] (entE 0 0 sig104 (x0, ())) (entL sig104 (x0, ())) = some ([Dyn.mk Ty.bool (g103_0 x0.2.2.1 0 1000)], [], [True, g103_0 x0.1 0 1000 = true, True, g103_0 x0.2.1 (-400) 500 = true, True]) := by kernel_rfl
theorem p104_1 (x0 : Int × Int × Int × Unit) : runF tab ext104 false 22 [] 2000 [] oks104 kds104 tys104 Tryz.f104.results [true, false] [.code b104] (entE 0 0 sig104 (x0, ())) (entL sig104 (x0, ())) = some ([Dyn.mk Ty.bool false], [], [True, g103_0 x0.1 0 1000 = true, True, g103_0 x0.2.1 (-400) 500 = false]) := by kernel_rfl
theorem p104_2 (x0 : Int × Int × Int × Unit) : runF tab ext104 false 22 [] 2000 [] oks104 kds104 tys104 Tryz.f104.results [false, false] [.code b104] (entE 0 0 sig104 (x0, ())) (entL sig104 (x0, ())) = some ([Dyn.mk Ty.bool false], [], [True, g103_0 x0.1 0 1000 = false, false = false]) := by kernel_rfl
theorem at104 (x0 : Int × Int × Int × Unit) (h : P104 x0) (K : Ctx) (q : Nat → Value) : AtV Tryz.prog 104 (PostR kds104 oks104 [⟨Ty.bool, g104_0 x0⟩] [] [] q K) 22 K q [] [.code b104] (entE 0 0 sig104 (x0, ())) (entL sig104 (x0, ())) := by
  unfold P104 at h
  unfold g104_0
  by_cases b0 : (g103_0 x0.1 0 1000) = true
  · try simp only [if_pos b0] at h ⊢
    by_cases b1 : (g103_0 x0.2.1 (-400) 500) = true
    · try simp only [if_pos b1] at h ⊢
      exact AtV.fin Tryz.func104 tabOk ext104Ok mixed (p104_0 x0) ⟨trivial, b0, trivial, b1, trivial, trivial⟩
    · try simp only [if_neg b1] at h ⊢
      replace b1 := Bool.eq_false_iff.2 b1
      exact AtV.fin Tryz.func104 tabOk ext104Ok mixed (p104_1 x0) ⟨trivial, b0, trivial, b1, trivial⟩
  · try simp only [if_neg b0] at h ⊢
    replace b0 := Bool.eq_false_iff.2 b0
    exact AtV.fin Tryz.func104 tabOk ext104Ok mixed (p104_2 x0) ⟨trivial, b0, rfl, trivial⟩

def S104 : Am.Spec := { sig := sig104, pre := fun ⟨x0, _⟩ => P104 x0, res := fun ⟨x0, _⟩ => [⟨Ty.bool, g104_0 x0⟩], kds := kds104 }
theorem con104 : Contract Tryz.prog 104 S104 := contract_of Tryz.func104 hb104 (Nat.le_of_ble_eq_true (by kernel_rfl)) (fun ⟨x0, _⟩ h _ K q => at104 x0 h K q)


end
end Go.Proofs.YtcakiedjgnhjcaaGreat

/- Function 61 (spec.l08Ok): its runs between cut points. Written by a program of this repo (gen). -/
set_option linter.unusedVariables false
set_option linter.unusedSimpArgs false
set_option maxRecDepth 100000
namespace Go.Proofs.YtcakiedjgnhjcaaGreat
open Go Go.Am Go.Proofs
noncomputable section
def ext61 : Ext := [(104, S104)]
theorem call61_104 : Callable Tryz.prog 104 := ⟨Tryz.f104, Tryz.func104, by kernel_rfl, by kernel_rfl⟩
theorem ext61Ok : ExtOk Tryz.prog ext61 := ⟨⟨call61_104, con104⟩, trivial⟩

noncomputable def b61 : Code := bodyOf Tryz.f61
theorem hb61 : Tryz.f61.body = some b61 := by kernel_rfl
def sig61 : List AT := [AT.v (Ty.sl (Ty.cons (Ty.int .i64) (Ty.cons (Ty.int .i64) (Ty.cons (Ty.int .i64) Ty.unit))))]
def tys61 : List Ty := [Ty.bool]
def kds61 : List RK := []
def oks61 : List AT := owns sig61
def E61_2 (v3 : Int) (x0 : List TyB2) : Env := [(0, PV.a (Atom.sl (Ty.cons (Ty.int .i64) (Ty.cons (Ty.int .i64) (Ty.cons (Ty.int .i64) Ty.unit))) x0)), (3, PV.a (Atom.val (Value.int .i64 v3)))]
def L61_2 (v3 : Int) (x0 : List TyB2) : Heap := []
mutual
def R61 : Nat → List TyB2 → List Dyn → Prop
  | 0, _, _ => False
  | n + 1, x0, ds => (R61_2 n (0) (x0) ds)
def R61_2 : Nat → Int → List TyB2 → List Dyn → Prop
  | 0, _, _, _ => False
  | n + 1, v3, x0, ds => (if (decide (v3 < (↑(List.length x0) : Int))) = true then ((0 ≤ v3) ∧ (v3 < (↑(List.length x0) : Int)) ∧ (if (!g104_0 (List.getD x0 (Int.toNat v3) (0, 0, 0, ()))) = true then (ds = [Dyn.mk Ty.bool false]) else ((InR .i64 (v3 + 1)) ∧ (R61_2 n (v3 + 1) (x0) ds)))) else (ds = [Dyn.mk Ty.bool (decide ((↑(List.length x0) : Int) ≤ 48))]))
end
theorem p61_0 (x0 : List TyB2) : Am.runN tab ext61 false 18 [] 2000 [] [] [0, 3] [] [] [.code b61] (entE 0 0 sig61 (x0, ())) (entL sig61 (x0, ())) = some (cutAt b61 2, E61_2 (0) (x0), L61_2 (0) (x0), []) := by kernel_rfl
theorem p61_1 (v3 : Int) (x0 : List TyB2) : runF tab ext61 false 18 [] 2000 [] oks61 kds61 tys61 Tryz.f61.results [true, true] (cutAt b61 2) (E61_2 v3 x0) (L61_2 v3 x0) = some ([Dyn.mk Ty.bool false], [], [decide (v3 < (↑(List.length x0) : Int)) = true, 0 ≤ v3, v3 < (↑(List.length x0) : Int), True, (!g104_0 (List.getD x0 (Int.toNat v3) (0, 0, 0, ()))) = true]) := by kernel_rfl
theorem p61_2 (v3 : Int) (x0 : List TyB2) : Am.runN tab ext61 false 18 [] 2000 [] [] [0, 3] [] [true, false] (cutAt b61 2) (E61_2 v3 x0) (L61_2 v3 x0) = some (cutAt b61 2, E61_2 (v3 + 1) (x0), L61_2 (v3 + 1) (x0), [decide (v3 < (↑(List.length x0) : Int)) = true, 0 ≤ v3, v3 < (↑(List.length x0) : Int), True, (!g104_0 (List.getD x0 (Int.toNat v3) (0, 0, 0, ()))) = false, InR .i64 (v3 + 1)]) := by kernel_rfl
theorem p61_3 (v3 : Int) (x0 : List TyB2) : runF tab ext61 false 18 [] 2000 [] oks61 kds61 tys61 Tryz.f61.results [false] (cutAt b61 2) (E61_2 v3 x0) (L61_2 v3 x0) = some ([Dyn.mk Ty.bool (decide ((↑(List.length x0) : Int) ≤ 48))], [], [decide (v3 < (↑(List.length x0) : Int)) = false]) := by kernel_rfl
theorem snd61 : ∀ n, (∀ (x0 : List TyB2) ds, R61 n x0 ds → ∀ K q, AtV Tryz.prog 61 (PostR kds61 oks61 ds [] [] q K) 18 K q [] [.code b61] (entE 0 0 sig61 (x0, ())) (entL sig61 (x0, ()))) ∧ (∀ (v3 : Int) (x0 : List TyB2) ds, R61_2 n v3 x0 ds → ∀ K q, AtV Tryz.prog 61 (PostR kds61 oks61 ds [] [] q K) 18 K q [] (cutAt b61 2) (E61_2 v3 x0) (L61_2 v3 x0)) := by
  intro n
  induction n with
  | zero => exact ⟨fun _ _ h => by simp only [R61] at h, fun _ _ _ h => by simp only [R61_2] at h⟩
  | succ n ih =>
  obtain ⟨ih, ih2⟩ := ih
  refine ⟨?_, ?_⟩
  · intro x0 ds h K q
    rw [R61] at h
    exact AtV.runN tabOk ext61Ok mixed (p61_0 x0) trivial (ih2 _ _ _ h K q)

  · intro v3 x0 ds h K q
    rw [R61_2] at h
    by_cases b0 : (decide (v3 < (↑(List.length x0) : Int))) = true
    · rw [if_pos b0] at h
      obtain ⟨s0, s1, h⟩ := h
      by_cases b1 : (!g104_0 (List.getD x0 (Int.toNat v3) (0, 0, 0, ()))) = true
      · rw [if_pos b1] at h
        subst h
        exact AtV.fin Tryz.func61 tabOk ext61Ok mixed (p61_1 v3 x0) ⟨b0, s0, s1, trivial, b1, trivial⟩
      · rw [if_neg b1] at h
        replace b1 := Bool.eq_false_iff.2 b1
        obtain ⟨s2, h⟩ := h
        exact AtV.runN tabOk ext61Ok mixed (p61_2 v3 x0) ⟨b0, s0, s1, trivial, b1, s2, trivial⟩ (ih2 _ _ _ h K q)
    · rw [if_neg b0] at h
      replace b0 := Bool.eq_false_iff.2 b0
      subst h
      exact AtV.fin Tryz.func61 tabOk ext61Ok mixed (p61_3 v3 x0) ⟨b0, trivial⟩



def g61_0 (x0 : List TyB2) : Bool := x0.all g104_0 && decide (x0.length ≤ 48)
def P61 (x0 : List TyB2) : Prop := True

theorem top61 (x0 : List TyB2) (hw : Wf (.sl (.cons (.int .i64) (.cons (.int .i64) (.cons (.int .i64) .unit)))) x0) : R61 (x0.length + 1 + 1) x0 [⟨.bool, g61_0 x0⟩] := by
  rw [R61]
  have key := loop_test x0 ((0 : Int), (0 : Int), (0 : Int), ()) g104_0 [(⟨.bool, false⟩ : Dyn)] [⟨.bool, decide (x0.length ≤ 48)⟩] (fun n i ds => R61_2 n i x0 ds) (fun n => ?_) (fun n i hi hok ds hr => ?_) (fun n i hi hok => ?_)
  · unfold g61_0
    cases h : x0.all g104_0 <;> rw [h] at key <;> simpa using key
  · rw [R61_2, if_neg (by simp)]
    simp only [Dyn.mk.injEq, heq_eq_eq, true_and, List.cons.injEq, and_true]
    congr 1
    exact propext ⟨fun h => by omega, fun h => by omega⟩
  · rw [R61_2, if_pos (by simp; omega)]
    simp only [Int.toNat_natCast]
    refine ⟨by omega, by omega, ?_⟩
    rw [if_neg (by rw [hok]; simp)]
    exact ⟨inR_up hw.1 hi, hr⟩
  · rw [R61_2, if_pos (by simp; omega)]
    simp only [Int.toNat_natCast]
    refine ⟨by omega, by omega, ?_⟩
    rw [if_pos (by rw [hok]; simp)] <;> trivial

def S61 : Am.Spec := { sig := sig61, pre := fun ⟨x0, _⟩ => P61 x0, res := fun ⟨x0, _⟩ => [⟨Ty.bool, g61_0 x0⟩] }
theorem con61 : Contract Tryz.prog 61 S61 := contract_of Tryz.func61 hb61 (Nat.le_of_ble_eq_true (by kernel_rfl)) (fun ⟨x0, _⟩ h hwf K q =>
  (snd61 _).1 x0 _ (top61 x0 hwf.1) K q)

end
end Go.Proofs.YtcakiedjgnhjcaaGreat

/- Function 105 (spec.l08Speed): its runs between cut points. Written by a program of this repo (gen). -/
set_option linter.unusedVariables false
set_option linter.unusedSimpArgs false
set_option maxRecDepth 100000
namespace Go.Proofs.YtcakiedjgnhjcaaGreat
open Go Go.Am Go.Proofs
noncomputable section
def ext105 : Ext := [(103, S103)]
theorem call105_103 : Callable Tryz.prog 103 := ⟨Tryz.f103, Tryz.func103, by kernel_rfl, by kernel_rfl⟩
theorem ext105Ok : ExtOk Tryz.prog ext105 := ⟨⟨call105_103, con103⟩, trivial⟩

noncomputable def b105 : Code := bodyOf Tryz.f105
theorem hb105 : Tryz.f105.body = some b105 := by kernel_rfl
def sig105 : List AT := [AT.v (Ty.int .i64)]
def tys105 : List Ty := [Ty.bool]
def kds105 : List RK := []
def oks105 : List AT := owns sig105
def P105 (x0 : Int) : Prop := True
def g105_0 (x0 : Int) : Bool := g103_0 x0 0 20000
theorem p105_0 (x0 : Int) : runF tab ext105 false 5 [] 2000 [] oks105 kds105 tys105 Tryz.f105.results [] [.code b105] (entE 0 0 sig105 (x0, ())) (entL sig105 (x0, ())) = some ([Dyn.mk Ty.bool (g103_0 x0 0 20000)], [], [True]) := by kernel_rfl
theorem at105 (x0 : Int) (h : P105 x0) (K : Ctx) (q : Nat → Value) : AtV Tryz.prog 105 (PostR kds105 oks105 [⟨Ty.bool, g105_0 x0⟩] [] [] q K) 5 K q [] [.code b105] (entE 0 0 sig105 (x0, ())) (entL sig105 (x0, ())) := by
  unfold P105 at h
  unfold g105_0
  exact AtV.fin Tryz.func105 tabOk ext105Ok mixed (p105_0 x0) ⟨trivial, trivial⟩

def S105 : Am.Spec := { sig := sig105, pre := fun ⟨x0, _⟩ => P105 x0, res := fun ⟨x0, _⟩ => [⟨Ty.bool, g105_0 x0⟩], kds := kds105 }
theorem con105 : Contract Tryz.prog 105 S105 := contract_of Tryz.func105 hb105 (Nat.le_of_ble_eq_true (by kernel_rfl)) (fun ⟨x0, _⟩ h _ K q => at105 x0 h K q)


end
end Go.Proofs.YtcakiedjgnhjcaaGreat

/- Function 62 (spec.l08Limits): its runs between cut points. Written by a program of this repo (gen). -/
set_option linter.unusedVariables false
set_option linter.unusedSimpArgs false
set_option maxRecDepth 100000
namespace Go.Proofs.YtcakiedjgnhjcaaGreat
open Go Go.Am Go.Proofs
noncomputable section
def ext62 : Ext := [(103, S103), (105, S105)]
theorem call62_103 : Callable Tryz.prog 103 := ⟨Tryz.f103, Tryz.func103, by kernel_rfl, by kernel_rfl⟩
theorem call62_105 : Callable Tryz.prog 105 := ⟨Tryz.f105, Tryz.func105, by kernel_rfl, by kernel_rfl⟩
theorem ext62Ok : ExtOk Tryz.prog ext62 := ⟨⟨call62_103, con103⟩, ⟨call62_105, con105⟩, trivial⟩

noncomputable def b62 : Code := bodyOf Tryz.f62
theorem hb62 : Tryz.f62.body = some b62 := by kernel_rfl
def sig62 : List AT := [AT.v (Ty.sl (Ty.cons (Ty.int .i64) (Ty.cons (Ty.int .i64) (Ty.cons (Ty.int .i64) Ty.unit))))]
def tys62 : List Ty := [Ty.bool]
def kds62 : List RK := []
def oks62 : List AT := owns sig62
def E62_2 (v3 : Int) (x0 : List TyB2) : Env := [(0, PV.a (Atom.sl (Ty.cons (Ty.int .i64) (Ty.cons (Ty.int .i64) (Ty.cons (Ty.int .i64) Ty.unit))) x0)), (3, PV.a (Atom.val (Value.int .i64 v3)))]
def L62_2 (v3 : Int) (x0 : List TyB2) : Heap := []
mutual
def R62 : Nat → List TyB2 → List Dyn → Prop
  | 0, _, _ => False
  | n + 1, x0, ds => (R62_2 n (0) (x0) ds)
def R62_2 : Nat → Int → List TyB2 → List Dyn → Prop
  | 0, _, _, _ => False
  | n + 1, v3, x0, ds => (if (decide (v3 < (↑(List.length x0) : Int))) = true then ((0 ≤ v3) ∧ (v3 < (↑(List.length x0) : Int)) ∧ (if (!g103_0 (List.getD x0 (Int.toNat v3) (0, 0, 0, ())).1 1 4) = true then (ds = [Dyn.mk Ty.bool false]) else (if (!g103_0 (List.getD x0 (Int.toNat v3) (0, 0, 0, ())).2.1 0 1000) = true then (ds = [Dyn.mk Ty.bool false]) else (if (!g105_0 (List.getD x0 (Int.toNat v3) (0, 0, 0, ())).2.2.1) = true then (ds = [Dyn.mk Ty.bool false]) else ((InR .i64 (v3 + 1)) ∧ (R62_2 n (v3 + 1) (x0) ds)))))) else (ds = [Dyn.mk Ty.bool (decide ((↑(List.length x0) : Int) ≤ 8))]))
end
theorem p62_0 (x0 : List TyB2) : Am.runN tab ext62 false 39 [] 2000 [] [] [0, 3] [] [] [.code b62] (entE 0 0 sig62 (x0, ())) (entL sig62 (x0, ())) = some (cutAt b62 2, E62_2 (0) (x0), L62_2 (0) (x0), []) := by kernel_rfl
theorem p62_1 (v3 : Int) (x0 : List TyB2) : runF tab ext62 false 39 [] 2000 [] oks62 kds62 tys62 Tryz.f62.results [true, true, true, true] (cutAt b62 2) (E62_2 v3 x0) (L62_2 v3 x0) = some ([Dyn.mk Ty.bool false], [], [decide (v3 < (↑(List.length x0) : Int)) = true, 0 ≤ v3, v3 < (↑(List.length x0) : Int), True, (!g103_0 (List.getD x0 (Int.toNat v3) (0, 0, 0, ())).1 1 4) = true, true = true, true = true]) := by kernel_rfl
theorem p62_2 (v3 : Int) (x0 : List TyB2) : runF tab ext62 false 39 [] 2000 [] oks62 kds62 tys62 Tryz.f62.results [true, false, true, true] (cutAt b62 2) (E62_2 v3 x0) (L62_2 v3 x0) = some ([Dyn.mk Ty.bool false], [], [decide (v3 < (↑(List.length x0) : Int)) = true, 0 ≤ v3, v3 < (↑(List.length x0) : Int), True, (!g103_0 (List.getD x0 (Int.toNat v3) (0, 0, 0, ())).1 1 4) = false, True, (!g103_0 (List.getD x0 (Int.toNat v3) (0, 0, 0, ())).2.1 0 1000) = true, true = true]) := by kernel_rfl
theorem p62_3 (v3 : Int) (x0 : List TyB2) : runF tab ext62 false 39 [] 2000 [] oks62 kds62 tys62 Tryz.f62.results [true, false, false, true] (cutAt b62 2) (E62_2 v3 x0) (L62_2 v3 x0) = some ([Dyn.mk Ty.bool false], [], [decide (v3 < (↑(List.length x0) : Int)) = true, 0 ≤ v3, v3 < (↑(List.length x0) : Int), True, (!g103_0 (List.getD x0 (Int.toNat v3) (0, 0, 0, ())).1 1 4) = false, True, (!g103_0 (List.getD x0 (Int.toNat v3) (0, 0, 0, ())).2.1 0 1000) = false, True, (!g105_0 (List.getD x0 (Int.toNat v3) (0, 0, 0, ())).2.2.1) = true]) := by kernel_rfl
theorem p62_4 (v3 : Int) (x0 : List TyB2) : Am.runN tab ext62 false 39 [] 2000 [] [] [0, 3] [] [true, false, false, false] (cutAt b62 2) (E62_2 v3 x0) (L62_2 v3 x0) = some (cutAt b62 2, E62_2 (v3 + 1) (x0), L62_2 (v3 + 1) (x0), [decide (v3 < (↑(List.length x0) : Int)) = true, 0 ≤ v3, v3 < (↑(List.length x0) : Int), True, (!g103_0 (List.getD x0 (Int.toNat v3) (0, 0, 0, ())).1 1 4) = false, True, (!g103_0 (List.getD x0 (Int.toNat v3) (0, 0, 0, ())).2.1 0 1000) = false, True, (!g105_0 (List.getD x0 (Int.toNat v3) (0, 0, 0, ())).2.2.1) = false, InR .i64 (v3 + 1)]) := by kernel_rfl
theorem p62_5 (v3 : Int) (x0 : List TyB2) : runF tab ext62 false 39 [] 2000 [] oks62 kds62 tys62 Tryz.f62.results [false] (cutAt b62 2) (E62_2 v3 x0) (L62_2 v3 x0) = some ([Dyn.mk Ty.bool (decide ((↑(List.length x0) : Int) ≤ 8))], [], [decide (v3 < (↑(List.length x0) : Int)) = false]) := by kernel_rfl
theorem snd62 : ∀ n, (∀ (x0 : List TyB2) ds, R62 n x0 ds → ∀ K q, AtV Tryz.prog 62 (PostR kds62 oks62 ds [] [] q K) 39 K q [] [.code b62] (entE 0 0 sig62 (x0, ())) (entL sig62 (x0, ()))) ∧ (∀ (v3 : Int) (x0 : List TyB2) ds, R62_2 n v3 x0 ds → ∀ K q, AtV Tryz.prog 62 (PostR kds62 oks62 ds [] [] q K) 39 K q [] (cutAt b62 2) (E62_2 v3 x0) (L62_2 v3 x0)) := by
  intro n
  induction n with
  | zero => exact ⟨fun _ _ h => by simp only [R62] at h, fun _ _ _ h => by simp only [R62_2] at h⟩
  | succ n ih =>
  obtain ⟨ih, ih2⟩ := ih
  refine ⟨?_, ?_⟩
  · intro x0 ds h K q
    rw [R62] at h
    exact AtV.runN tabOk ext62Ok mixed (p62_0 x0) trivial (ih2 _ _ _ h K q)

  · intro v3 x0 ds h K q
    rw [R62_2] at h
    by_cases b0 : (decide (v3 < (↑(List.length x0) : Int))) = true
    · rw [if_pos b0] at h
      obtain ⟨s0, s1, h⟩ := h
      by_cases b1 : (!g103_0 (List.getD x0 (Int.toNat v3) (0, 0, 0, ())).1 1 4) = true
      · rw [if_pos b1] at h
        subst h
        exact AtV.fin Tryz.func62 tabOk ext62Ok mixed (p62_1 v3 x0) ⟨b0, s0, s1, trivial, b1, rfl, rfl, trivial⟩
      · rw [if_neg b1] at h
        replace b1 := Bool.eq_false_iff.2 b1
        by_cases b2 : (!g103_0 (List.getD x0 (Int.toNat v3) (0, 0, 0, ())).2.1 0 1000) = true
        · rw [if_pos b2] at h
          subst h
          exact AtV.fin Tryz.func62 tabOk ext62Ok mixed (p62_2 v3 x0) ⟨b0, s0, s1, trivial, b1, trivial, b2, rfl, trivial⟩
        · rw [if_neg b2] at h
          replace b2 := Bool.eq_false_iff.2 b2
          by_cases b3 : (!g105_0 (List.getD x0 (Int.toNat v3) (0, 0, 0, ())).2.2.1) = true
          · rw [if_pos b3] at h
            subst h
            exact AtV.fin Tryz.func62 tabOk ext62Ok mixed (p62_3 v3 x0) ⟨b0, s0, s1, trivial, b1, trivial, b2, trivial, b3, trivial⟩
          · rw [if_neg b3] at h
            replace b3 := Bool.eq_false_iff.2 b3
            obtain ⟨s2, h⟩ := h
            exact AtV.runN tabOk ext62Ok mixed (p62_4 v3 x0) ⟨b0, s0, s1, trivial, b1, trivial, b2, trivial, b3, s2, trivial⟩ (ih2 _ _ _ h K q)
    · rw [if_neg b0] at h
      replace b0 := Bool.eq_false_iff.2 b0
      subst h
      exact AtV.fin Tryz.func62 tabOk ext62Ok mixed (p62_5 v3 x0) ⟨b0, trivial⟩



def lim62 (x : Int × Int × Int × Unit) : Bool := g103_0 x.1 1 4 && g103_0 x.2.1 0 1000 && g105_0 x.2.2.1
def g62_0 (x0 : List TyB2) : Bool := x0.all lim62 && decide (x0.length ≤ 8)
def P62 (x0 : List TyB2) : Prop := True

theorem step62 (n i : Nat) (x0 : List TyB2) (hm : x0.length ≤ maxLen) (hi : i < x0.length) (ds : List Dyn)
    (h : if lim62 (x0.getD i ((0 : Int), (0 : Int), (0 : Int), ())) = true then R62_2 n ((i : Int) + 1) x0 ds else ds = [⟨.bool, false⟩]) : R62_2 (n + 1) (i : Int) x0 ds := by
  rw [R62_2, if_pos (by simp; omega)]
  simp only [Int.toNat_natCast]
  refine ⟨by omega, by omega, ?_⟩
  have hu := inR_up hm hi
  unfold lim62 at h
  by_cases h1 : g103_0 (x0.getD i ((0 : Int), (0 : Int), (0 : Int), ())).1 1 4 = true
  case neg => rw [Bool.eq_false_iff.2 h1] at h; rw [if_pos (by rw [Bool.eq_false_iff.2 h1]; rfl)]; simpa using h
  rw [if_neg (by rw [h1]; simp)]
  by_cases h2 : g103_0 (x0.getD i ((0 : Int), (0 : Int), (0 : Int), ())).2.1 0 1000 = true
  case neg => rw [h1, Bool.eq_false_iff.2 h2] at h; rw [if_pos (by rw [Bool.eq_false_iff.2 h2]; rfl)]; simpa using h
  rw [if_neg (by rw [h2]; simp)]
  by_cases h3 : g105_0 (x0.getD i ((0 : Int), (0 : Int), (0 : Int), ())).2.2.1 = true
  case neg => rw [h1, h2, Bool.eq_false_iff.2 h3] at h; rw [if_pos (by rw [Bool.eq_false_iff.2 h3]; rfl)]; simpa using h
  rw [if_neg (by rw [h3]; simp)]
  rw [h1, h2, h3] at h
  exact ⟨hu, by simpa using h⟩

theorem top62 (x0 : List TyB2) (hw : x0.length ≤ maxLen) : R62 (x0.length + 1 + 1) x0 [⟨.bool, g62_0 x0⟩] := by
  rw [R62]
  have key := loop_test x0 ((0 : Int), (0 : Int), (0 : Int), ()) lim62 [(⟨.bool, false⟩ : Dyn)] [⟨.bool, decide (x0.length ≤ 8)⟩] (fun n i ds => R62_2 n i x0 ds) (fun n => ?_) (fun n i hi hok ds hr => ?_) (fun n i hi hok => ?_)
  · unfold g62_0
    cases h : x0.all lim62 <;> rw [h] at key <;> simpa using key
  · rw [R62_2, if_neg (by simp)]
    simp only [Dyn.mk.injEq, heq_eq_eq, true_and, List.cons.injEq, and_true]
    congr 1
    exact propext ⟨fun h => by omega, fun h => by omega⟩
  · exact step62 n i x0 hw hi ds (by rw [if_pos hok]; exact hr)
  · exact step62 n i x0 hw hi _ (by rw [if_neg (by rw [hok]; simp)])

def S62 : Am.Spec := { sig := sig62, pre := fun ⟨x0, _⟩ => P62 x0, res := fun ⟨x0, _⟩ => [⟨Ty.bool, g62_0 x0⟩] }
theorem con62 : Contract Tryz.prog 62 S62 := contract_of Tryz.func62 hb62 (Nat.le_of_ble_eq_true (by kernel_rfl)) (fun ⟨x0, _⟩ h hwf K q =>
  (snd62 _).1 x0 _ (top62 x0 hwf.1.1) K q)

end
end Go.Proofs.YtcakiedjgnhjcaaGreat

/- Function 63 (spec.l10Ok): its runs between cut points. Written by a program of this repo (gen). -/
set_option linter.unusedVariables false
set_option linter.unusedSimpArgs false
set_option maxRecDepth 100000
namespace Go.Proofs.YtcakiedjgnhjcaaGreat
open Go Go.Am Go.Proofs
noncomputable section
def ext63 : Ext := [(103, S103)]
theorem call63_103 : Callable Tryz.prog 103 := ⟨Tryz.f103, Tryz.func103, by kernel_rfl, by kernel_rfl⟩
theorem ext63Ok : ExtOk Tryz.prog ext63 := ⟨⟨call63_103, con103⟩, trivial⟩

noncomputable def b63 : Code := bodyOf Tryz.f63
theorem hb63 : Tryz.f63.body = some b63 := by kernel_rfl
def sig63 : List AT := [AT.p (Ty.cons (Ty.int .i64) (Ty.cons (Ty.int .i64) (Ty.cons (Ty.int .i64) Ty.unit)))]
def tys63 : List Ty := [Ty.bool]
def kds63 : List RK := []
def oks63 : List AT := owns sig63
def P63 (x0 : Int × Int × Int × Unit) : Prop := True
def g63_0 (x0 : Int × Int × Int × Unit) : Bool := (if (g103_0 x0.1 1000 10000000) = true then (if (g103_0 x0.2.1 100 1000000) = true then g103_0 x0.2.2.1 0 500 else false) else false)
theorem p63_0 (x0 : Int × Int × Int × Unit) : runF tab ext63 false 22 [] 2000 [] oks63 kds63 tys63 Tryz.f63.results [true, true] [.code b63] (entE 0 0 sig63 (x0, ())) (entL sig63 (x0, ())) = some ([Dyn.mk Ty.bool (g103_0 x0.2.2.1 0 500)], [], [True, g103_0 x0.1 1000 10000000 = true, True, g103_0 x0.2.1 100 1000000 = true, True]) := by kernel_rfl
theorem p63_1 (x0 : Int × Int × Int × Unit) : runF tab ext63 false 22 [] 2000 [] oks63 kds63 tys63 Tryz.f63.results [true, false] [.code b63] (entE 0 0 sig63 (x0, ())) (entL sig63 (x0, ())) = some ([Dyn.mk Ty.bool false], [], [True, g103_0 x0.1 1000 10000000 = true, True, g103_0 x0.2.1 100 1000000 = false]) := by kernel_rfl
theorem p63_2 (x0 : Int × Int × Int × Unit) : runF tab ext63 false 22 [] 2000 [] oks63 kds63 tys63 Tryz.f63.results [false, false] [.code b63] (entE 0 0 sig63 (x0, ())) (entL sig63 (x0, ())) = some ([Dyn.mk Ty.bool false], [], [True, g103_0 x0.1 1000 10000000 = false, false = false]) := by kernel_rfl
theorem at63 (x0 : Int × Int × Int × Unit) (h : P63 x0) (K : Ctx) (q : Nat → Value) : AtV Tryz.prog 63 (PostR kds63 oks63 [⟨Ty.bool, g63_0 x0⟩] [] [] q K) 22 K q [] [.code b63] (entE 0 0 sig63 (x0, ())) (entL sig63 (x0, ())) := by
  unfold P63 at h
  unfold g63_0
  by_cases b0 : (g103_0 x0.1 1000 10000000) = true
  · try simp only [if_pos b0] at h ⊢
    by_cases b1 : (g103_0 x0.2.1 100 1000000) = true
    · try simp only [if_pos b1] at h ⊢
      exact AtV.fin Tryz.func63 tabOk ext63Ok mixed (p63_0 x0) ⟨trivial, b0, trivial, b1, trivial, trivial⟩
    · try simp only [if_neg b1] at h ⊢
      replace b1 := Bool.eq_false_iff.2 b1
      exact AtV.fin Tryz.func63 tabOk ext63Ok mixed (p63_1 x0) ⟨trivial, b0, trivial, b1, trivial⟩
  · try simp only [if_neg b0] at h ⊢
    replace b0 := Bool.eq_false_iff.2 b0
    exact AtV.fin Tryz.func63 tabOk ext63Ok mixed (p63_2 x0) ⟨trivial, b0, rfl, trivial⟩

def S63 : Am.Spec := { sig := sig63, pre := fun ⟨x0, _⟩ => P63 x0, res := fun ⟨x0, _⟩ => [⟨Ty.bool, g63_0 x0⟩], kds := kds63 }
theorem con63 : Contract Tryz.prog 63 S63 := contract_of Tryz.func63 hb63 (Nat.le_of_ble_eq_true (by kernel_rfl)) (fun ⟨x0, _⟩ h _ K q => at63 x0 h K q)


end
end Go.Proofs.YtcakiedjgnhjcaaGreat

/- Function 64 (spec.l14Ok): its runs between cut points. Written by a program of this repo (gen). -/
set_option linter.unusedVariables false
set_option linter.unusedSimpArgs false
set_option maxRecDepth 100000
namespace Go.Proofs.YtcakiedjgnhjcaaGreat
open Go Go.Am Go.Proofs
noncomputable section
def ext64 : Ext := [(103, S103)]
theorem call64_103 : Callable Tryz.prog 103 := ⟨Tryz.f103, Tryz.func103, by kernel_rfl, by kernel_rfl⟩
theorem ext64Ok : ExtOk Tryz.prog ext64 := ⟨⟨call64_103, con103⟩, trivial⟩

noncomputable def b64 : Code := bodyOf Tryz.f64
theorem hb64 : Tryz.f64.body = some b64 := by kernel_rfl
def sig64 : List AT := [AT.p (Ty.cons (Ty.int .i64) (Ty.cons (Ty.int .i64) (Ty.cons (Ty.int .i64) Ty.unit)))]
def tys64 : List Ty := [Ty.bool]
def kds64 : List RK := []
def oks64 : List AT := owns sig64
def P64 (x0 : Int × Int × Int × Unit) : Prop := True
def g64_0 (x0 : Int × Int × Int × Unit) : Bool := (if (x0.1 == 0) = true then (if (x0.2.1 == 0) = true then x0.2.2.1 == 0 else false) else (if (x0.1 == 2) = true then (if (x0.2.1 == 0) = true then x0.2.2.1 == 0 else false) else (if (x0.1 == 1) = true then (if (g103_0 x0.2.1 0 2) = true then g103_0 x0.2.2.1 0 3 else false) else (if (x0.1 == 3) = true then (if (g103_0 x0.2.1 0 2) = true then g103_0 x0.2.2.1 0 3 else false) else false))))
theorem p64_0 (x0 : Int × Int × Int × Unit) : runF tab ext64 false 53 [] 2000 [] oks64 kds64 tys64 Tryz.f64.results [true, true, true] [.code b64] (entE 0 0 sig64 (x0, ())) (entL sig64 (x0, ())) = some ([Dyn.mk Ty.bool (x0.2.2.1 == 0)], [], [(x0.1 == 0) = true, true = true, (x0.2.1 == 0) = true]) := by kernel_rfl
theorem p64_1 (x0 : Int × Int × Int × Unit) : runF tab ext64 false 53 [] 2000 [] oks64 kds64 tys64 Tryz.f64.results [true, true, false] [.code b64] (entE 0 0 sig64 (x0, ())) (entL sig64 (x0, ())) = some ([Dyn.mk Ty.bool false], [], [(x0.1 == 0) = true, true = true, (x0.2.1 == 0) = false]) := by kernel_rfl
theorem p64_2 (x0 : Int × Int × Int × Unit) : runF tab ext64 false 53 [] 2000 [] oks64 kds64 tys64 Tryz.f64.results [false, true, true] [.code b64] (entE 0 0 sig64 (x0, ())) (entL sig64 (x0, ())) = some ([Dyn.mk Ty.bool (x0.2.2.1 == 0)], [], [(x0.1 == 0) = false, (x0.1 == 2) = true, (x0.2.1 == 0) = true]) := by kernel_rfl
theorem p64_3 (x0 : Int × Int × Int × Unit) : runF tab ext64 false 53 [] 2000 [] oks64 kds64 tys64 Tryz.f64.results [false, true, false] [.code b64] (entE 0 0 sig64 (x0, ())) (entL sig64 (x0, ())) = some ([Dyn.mk Ty.bool false], [], [(x0.1 == 0) = false, (x0.1 == 2) = true, (x0.2.1 == 0) = false]) := by kernel_rfl
theorem p64_4 (x0 : Int × Int × Int × Unit) : runF tab ext64 false 53 [] 2000 [] oks64 kds64 tys64 Tryz.f64.results [false, false, true, true, true] [.code b64] (entE 0 0 sig64 (x0, ())) (entL sig64 (x0, ())) = some ([Dyn.mk Ty.bool (g103_0 x0.2.2.1 0 3)], [], [(x0.1 == 0) = false, (x0.1 == 2) = false, (x0.1 == 1) = true, true = true, True, g103_0 x0.2.1 0 2 = true, True]) := by kernel_rfl
theorem p64_5 (x0 : Int × Int × Int × Unit) : runF tab ext64 false 53 [] 2000 [] oks64 kds64 tys64 Tryz.f64.results [false, false, true, true, false] [.code b64] (entE 0 0 sig64 (x0, ())) (entL sig64 (x0, ())) = some ([Dyn.mk Ty.bool false], [], [(x0.1 == 0) = false, (x0.1 == 2) = false, (x0.1 == 1) = true, true = true, True, g103_0 x0.2.1 0 2 = false]) := by kernel_rfl
theorem p64_6 (x0 : Int × Int × Int × Unit) : runF tab ext64 false 53 [] 2000 [] oks64 kds64 tys64 Tryz.f64.results [false, false, false, true, true] [.code b64] (entE 0 0 sig64 (x0, ())) (entL sig64 (x0, ())) = some ([Dyn.mk Ty.bool (g103_0 x0.2.2.1 0 3)], [], [(x0.1 == 0) = false, (x0.1 == 2) = false, (x0.1 == 1) = false, (x0.1 == 3) = true, True, g103_0 x0.2.1 0 2 = true, True]) := by kernel_rfl
theorem p64_7 (x0 : Int × Int × Int × Unit) : runF tab ext64 false 53 [] 2000 [] oks64 kds64 tys64 Tryz.f64.results [false, false, false, true, false] [.code b64] (entE 0 0 sig64 (x0, ())) (entL sig64 (x0, ())) = some ([Dyn.mk Ty.bool false], [], [(x0.1 == 0) = false, (x0.1 == 2) = false, (x0.1 == 1) = false, (x0.1 == 3) = true, True, g103_0 x0.2.1 0 2 = false]) := by kernel_rfl
theorem p64_8 (x0 : Int × Int × Int × Unit) : runF tab ext64 false 53 [] 2000 [] oks64 kds64 tys64 Tryz.f64.results [false, false, false, false, false] [.code b64] (entE 0 0 sig64 (x0, ())) (entL sig64 (x0, ())) = some ([Dyn.mk Ty.bool false], [], [(x0.1 == 0) = false, (x0.1 == 2) = false, (x0.1 == 1) = false, (x0.1 == 3) = false, false = false]) := by kernel_rfl
theorem at64 (x0 : Int × Int × Int × Unit) (h : P64 x0) (K : Ctx) (q : Nat → Value) : AtV Tryz.prog 64 (PostR kds64 oks64 [⟨Ty.bool, g64_0 x0⟩] [] [] q K) 53 K q [] [.code b64] (entE 0 0 sig64 (x0, ())) (entL sig64 (x0, ())) := by
  unfold P64 at h
  unfold g64_0
  by_cases b0 : (x0.1 == 0) = true
  · try simp only [if_pos b0] at h ⊢
    by_cases b1 : (x0.2.1 == 0) = true
    · try simp only [if_pos b1] at h ⊢
      exact AtV.fin Tryz.func64 tabOk ext64Ok mixed (p64_0 x0) ⟨b0, rfl, b1, trivial⟩
    · try simp only [if_neg b1] at h ⊢
      replace b1 := Bool.eq_false_iff.2 b1
      exact AtV.fin Tryz.func64 tabOk ext64Ok mixed (p64_1 x0) ⟨b0, rfl, b1, trivial⟩
  · try simp only [if_neg b0] at h ⊢
    replace b0 := Bool.eq_false_iff.2 b0
    by_cases b1 : (x0.1 == 2) = true
    · try simp only [if_pos b1] at h ⊢
      by_cases b2 : (x0.2.1 == 0) = true
      · try simp only [if_pos b2] at h ⊢
        exact AtV.fin Tryz.func64 tabOk ext64Ok mixed (p64_2 x0) ⟨b0, b1, b2, trivial⟩
      · try simp only [if_neg b2] at h ⊢
        replace b2 := Bool.eq_false_iff.2 b2
        exact AtV.fin Tryz.func64 tabOk ext64Ok mixed (p64_3 x0) ⟨b0, b1, b2, trivial⟩
    · try simp only [if_neg b1] at h ⊢
      replace b1 := Bool.eq_false_iff.2 b1
      by_cases b2 : (x0.1 == 1) = true
      · try simp only [if_pos b2] at h ⊢
        by_cases b3 : (g103_0 x0.2.1 0 2) = true
        · try simp only [if_pos b3] at h ⊢
          exact AtV.fin Tryz.func64 tabOk ext64Ok mixed (p64_4 x0) ⟨b0, b1, b2, rfl, trivial, b3, trivial, trivial⟩
        · try simp only [if_neg b3] at h ⊢
          replace b3 := Bool.eq_false_iff.2 b3
          exact AtV.fin Tryz.func64 tabOk ext64Ok mixed (p64_5 x0) ⟨b0, b1, b2, rfl, trivial, b3, trivial⟩
      · try simp only [if_neg b2] at h ⊢
        replace b2 := Bool.eq_false_iff.2 b2
        by_cases b3 : (x0.1 == 3) = true
        · try simp only [if_pos b3] at h ⊢
          by_cases b4 : (g103_0 x0.2.1 0 2) = true
          · try simp only [if_pos b4] at h ⊢
            exact AtV.fin Tryz.func64 tabOk ext64Ok mixed (p64_6 x0) ⟨b0, b1, b2, b3, trivial, b4, trivial, trivial⟩
          · try simp only [if_neg b4] at h ⊢
            replace b4 := Bool.eq_false_iff.2 b4
            exact AtV.fin Tryz.func64 tabOk ext64Ok mixed (p64_7 x0) ⟨b0, b1, b2, b3, trivial, b4, trivial⟩
        · try simp only [if_neg b3] at h ⊢
          replace b3 := Bool.eq_false_iff.2 b3
          exact AtV.fin Tryz.func64 tabOk ext64Ok mixed (p64_8 x0) ⟨b0, b1, b2, b3, rfl, trivial⟩

def S64 : Am.Spec := { sig := sig64, pre := fun ⟨x0, _⟩ => P64 x0, res := fun ⟨x0, _⟩ => [⟨Ty.bool, g64_0 x0⟩], kds := kds64 }
theorem con64 : Contract Tryz.prog 64 S64 := contract_of Tryz.func64 hb64 (Nat.le_of_ble_eq_true (by kernel_rfl)) (fun ⟨x0, _⟩ h _ K q => at64 x0 h K q)


end
end Go.Proofs.YtcakiedjgnhjcaaGreat

/- Function 123 (spec.l14Minute): its runs between cut points. Written by a program of this repo (gen). -/
set_option linter.unusedVariables false
set_option linter.unusedSimpArgs false
set_option maxRecDepth 100000
namespace Go.Proofs.YtcakiedjgnhjcaaGreat
open Go Go.Am Go.Proofs
noncomputable section
def ext123 : Ext := [(103, S103)]
theorem call123_103 : Callable Tryz.prog 103 := ⟨Tryz.f103, Tryz.func103, by kernel_rfl, by kernel_rfl⟩
theorem ext123Ok : ExtOk Tryz.prog ext123 := ⟨⟨call123_103, con103⟩, trivial⟩

noncomputable def b123 : Code := bodyOf Tryz.f123
theorem hb123 : Tryz.f123.body = some b123 := by kernel_rfl
def sig123 : List AT := [AT.v (Ty.int .i64)]
def tys123 : List Ty := [Ty.bool]
def kds123 : List RK := []
def oks123 : List AT := owns sig123
def P123 (x0 : Int) : Prop := True
def g123_0 (x0 : Int) : Bool := g103_0 x0 0 1440
theorem p123_0 (x0 : Int) : runF tab ext123 false 5 [] 2000 [] oks123 kds123 tys123 Tryz.f123.results [] [.code b123] (entE 0 0 sig123 (x0, ())) (entL sig123 (x0, ())) = some ([Dyn.mk Ty.bool (g103_0 x0 0 1440)], [], [True]) := by kernel_rfl
theorem at123 (x0 : Int) (h : P123 x0) (K : Ctx) (q : Nat → Value) : AtV Tryz.prog 123 (PostR kds123 oks123 [⟨Ty.bool, g123_0 x0⟩] [] [] q K) 5 K q [] [.code b123] (entE 0 0 sig123 (x0, ())) (entL sig123 (x0, ())) := by
  unfold P123 at h
  unfold g123_0
  exact AtV.fin Tryz.func123 tabOk ext123Ok mixed (p123_0 x0) ⟨trivial, trivial⟩

def S123 : Am.Spec := { sig := sig123, pre := fun ⟨x0, _⟩ => P123 x0, res := fun ⟨x0, _⟩ => [⟨Ty.bool, g123_0 x0⟩], kds := kds123 }
theorem con123 : Contract Tryz.prog 123 S123 := contract_of Tryz.func123 hb123 (Nat.le_of_ble_eq_true (by kernel_rfl)) (fun ⟨x0, _⟩ h _ K q => at123 x0 h K q)


end
end Go.Proofs.YtcakiedjgnhjcaaGreat

/- Function 106 (spec.l14Worker): its runs between cut points. Written by a program of this repo (gen). -/
set_option linter.unusedVariables false
set_option linter.unusedSimpArgs false
set_option maxRecDepth 100000
namespace Go.Proofs.YtcakiedjgnhjcaaGreat
open Go Go.Am Go.Proofs
noncomputable section
def ext106 : Ext := [(121, S121), (123, S123)]
theorem call106_121 : Callable Tryz.prog 121 := ⟨Tryz.f121, Tryz.func121, by kernel_rfl, by kernel_rfl⟩
theorem call106_123 : Callable Tryz.prog 123 := ⟨Tryz.f123, Tryz.func123, by kernel_rfl, by kernel_rfl⟩
theorem ext106Ok : ExtOk Tryz.prog ext106 := ⟨⟨call106_121, con121⟩, ⟨call106_123, con123⟩, trivial⟩

noncomputable def b106 : Code := bodyOf Tryz.f106
theorem hb106 : Tryz.f106.body = some b106 := by kernel_rfl
def sig106 : List AT := [AT.p (Ty.cons Ty.str (Ty.cons (Ty.int .i64) (Ty.cons (Ty.int .i64) Ty.unit)))]
def tys106 : List Ty := [Ty.bool]
def kds106 : List RK := []
def oks106 : List AT := owns sig106
def P106 (x0 : ByteArray × Int × Int × Unit) : Prop := True
def g106_0 (x0 : ByteArray × Int × Int × Unit) : Bool := (if (g121_0 x0.1) = true then (if (g123_0 x0.2.1) = true then (if (g123_0 x0.2.2.1) = true then decide (x0.2.1 < x0.2.2.1) else false) else false) else false)
theorem p106_0 (x0 : ByteArray × Int × Int × Unit) : runF tab ext106 false 33 [] 2000 [] oks106 kds106 tys106 Tryz.f106.results [true, true, true] [.code b106] (entE 0 0 sig106 (x0, ())) (entL sig106 (x0, ())) = some ([Dyn.mk Ty.bool (decide (x0.2.1 < x0.2.2.1))], [], [True, g121_0 x0.1 = true, True, g123_0 x0.2.1 = true, True, g123_0 x0.2.2.1 = true]) := by kernel_rfl
theorem p106_1 (x0 : ByteArray × Int × Int × Unit) : runF tab ext106 false 33 [] 2000 [] oks106 kds106 tys106 Tryz.f106.results [true, true, false] [.code b106] (entE 0 0 sig106 (x0, ())) (entL sig106 (x0, ())) = some ([Dyn.mk Ty.bool false], [], [True, g121_0 x0.1 = true, True, g123_0 x0.2.1 = true, True, g123_0 x0.2.2.1 = false]) := by kernel_rfl
theorem p106_2 (x0 : ByteArray × Int × Int × Unit) : runF tab ext106 false 33 [] 2000 [] oks106 kds106 tys106 Tryz.f106.results [true, false, false] [.code b106] (entE 0 0 sig106 (x0, ())) (entL sig106 (x0, ())) = some ([Dyn.mk Ty.bool false], [], [True, g121_0 x0.1 = true, True, g123_0 x0.2.1 = false, false = false]) := by kernel_rfl
theorem p106_3 (x0 : ByteArray × Int × Int × Unit) : runF tab ext106 false 33 [] 2000 [] oks106 kds106 tys106 Tryz.f106.results [false, false, false] [.code b106] (entE 0 0 sig106 (x0, ())) (entL sig106 (x0, ())) = some ([Dyn.mk Ty.bool false], [], [True, g121_0 x0.1 = false, false = false, false = false]) := by kernel_rfl
theorem at106 (x0 : ByteArray × Int × Int × Unit) (h : P106 x0) (K : Ctx) (q : Nat → Value) : AtV Tryz.prog 106 (PostR kds106 oks106 [⟨Ty.bool, g106_0 x0⟩] [] [] q K) 33 K q [] [.code b106] (entE 0 0 sig106 (x0, ())) (entL sig106 (x0, ())) := by
  unfold P106 at h
  unfold g106_0
  by_cases b0 : (g121_0 x0.1) = true
  · try simp only [if_pos b0] at h ⊢
    by_cases b1 : (g123_0 x0.2.1) = true
    · try simp only [if_pos b1] at h ⊢
      by_cases b2 : (g123_0 x0.2.2.1) = true
      · try simp only [if_pos b2] at h ⊢
        exact AtV.fin Tryz.func106 tabOk ext106Ok mixed (p106_0 x0) ⟨trivial, b0, trivial, b1, trivial, b2, trivial⟩
      · try simp only [if_neg b2] at h ⊢
        replace b2 := Bool.eq_false_iff.2 b2
        exact AtV.fin Tryz.func106 tabOk ext106Ok mixed (p106_1 x0) ⟨trivial, b0, trivial, b1, trivial, b2, trivial⟩
    · try simp only [if_neg b1] at h ⊢
      replace b1 := Bool.eq_false_iff.2 b1
      exact AtV.fin Tryz.func106 tabOk ext106Ok mixed (p106_2 x0) ⟨trivial, b0, trivial, b1, rfl, trivial⟩
  · try simp only [if_neg b0] at h ⊢
    replace b0 := Bool.eq_false_iff.2 b0
    exact AtV.fin Tryz.func106 tabOk ext106Ok mixed (p106_3 x0) ⟨trivial, b0, rfl, rfl, trivial⟩

def S106 : Am.Spec := { sig := sig106, pre := fun ⟨x0, _⟩ => P106 x0, res := fun ⟨x0, _⟩ => [⟨Ty.bool, g106_0 x0⟩], kds := kds106 }
theorem con106 : Contract Tryz.prog 106 S106 := contract_of Tryz.func106 hb106 (Nat.le_of_ble_eq_true (by kernel_rfl)) (fun ⟨x0, _⟩ h _ K q => at106 x0 h K q)


end
end Go.Proofs.YtcakiedjgnhjcaaGreat

/- Function 65 (spec.l14Workers): its runs between cut points. Written by a program of this repo (gen). -/
set_option linter.unusedVariables false
set_option linter.unusedSimpArgs false
set_option maxRecDepth 100000
namespace Go.Proofs.YtcakiedjgnhjcaaGreat
open Go Go.Am Go.Proofs
noncomputable section
def ext65 : Ext := [(106, S106)]
theorem call65_106 : Callable Tryz.prog 106 := ⟨Tryz.f106, Tryz.func106, by kernel_rfl, by kernel_rfl⟩
theorem ext65Ok : ExtOk Tryz.prog ext65 := ⟨⟨call65_106, con106⟩, trivial⟩

noncomputable def b65 : Code := bodyOf Tryz.f65
theorem hb65 : Tryz.f65.body = some b65 := by kernel_rfl
def sig65 : List AT := [AT.v (Ty.sl (Ty.cons Ty.str (Ty.cons (Ty.int .i64) (Ty.cons (Ty.int .i64) Ty.unit))))]
def tys65 : List Ty := [Ty.bool]
def kds65 : List RK := []
def oks65 : List AT := owns sig65
def E65_2 (v3 : Int) (x0 : List TyB1) : Env := [(0, PV.a (Atom.sl (Ty.cons Ty.str (Ty.cons (Ty.int .i64) (Ty.cons (Ty.int .i64) Ty.unit))) x0)), (3, PV.a (Atom.val (Value.int .i64 v3)))]
def L65_2 (v3 : Int) (x0 : List TyB1) : Heap := []
mutual
def R65 : Nat → List TyB1 → List Dyn → Prop
  | 0, _, _ => False
  | n + 1, x0, ds => (R65_2 n (0) (x0) ds)
def R65_2 : Nat → Int → List TyB1 → List Dyn → Prop
  | 0, _, _, _ => False
  | n + 1, v3, x0, ds => (if (decide (v3 < (↑(List.length x0) : Int))) = true then ((0 ≤ v3) ∧ (v3 < (↑(List.length x0) : Int)) ∧ (if (!g106_0 (List.getD x0 (Int.toNat v3) (ByteArray.empty, 0, 0, ()))) = true then (ds = [Dyn.mk Ty.bool false]) else (if (decide (v3 > 0)) = true then ((InR .i64 (v3 - 1)) ∧ ((0 ≤ v3 - 1) ∧ (v3 - 1 < (↑(List.length x0) : Int)) ∧ ((0 ≤ v3) ∧ (v3 < (↑(List.length x0) : Int)) ∧ (if (!Op.bytesLess (ByteArray.toList (List.getD x0 (Int.toNat (v3 - 1)) (ByteArray.empty, 0, 0, ())).1) (ByteArray.toList (List.getD x0 (Int.toNat v3) (ByteArray.empty, 0, 0, ())).1)) = true then (ds = [Dyn.mk Ty.bool false]) else ((InR .i64 (v3 + 1)) ∧ (R65_2 n (v3 + 1) (x0) ds)))))) else ((InR .i64 (v3 + 1)) ∧ (R65_2 n (v3 + 1) (x0) ds))))) else (ds = [Dyn.mk Ty.bool (decide ((↑(List.length x0) : Int) ≤ 12))]))
end
theorem p65_0 (x0 : List TyB1) : Am.runN tab ext65 false 36 [] 2000 [] [] [0, 3] [] [] [.code b65] (entE 0 0 sig65 (x0, ())) (entL sig65 (x0, ())) = some (cutAt b65 2, E65_2 (0) (x0), L65_2 (0) (x0), []) := by kernel_rfl
theorem p65_1 (v3 : Int) (x0 : List TyB1) : runF tab ext65 false 36 [] 2000 [] oks65 kds65 tys65 Tryz.f65.results [true, true, true] (cutAt b65 2) (E65_2 v3 x0) (L65_2 v3 x0) = some ([Dyn.mk Ty.bool false], [], [decide (v3 < (↑(List.length x0) : Int)) = true, 0 ≤ v3, v3 < (↑(List.length x0) : Int), True, (!g106_0 (List.getD x0 (Int.toNat v3) (ByteArray.empty, 0, 0, ()))) = true, true = true]) := by kernel_rfl
theorem p65_2 (v3 : Int) (x0 : List TyB1) : runF tab ext65 false 36 [] 2000 [] oks65 kds65 tys65 Tryz.f65.results [true, false, true, true] (cutAt b65 2) (E65_2 v3 x0) (L65_2 v3 x0) = some ([Dyn.mk Ty.bool false], [], [decide (v3 < (↑(List.length x0) : Int)) = true, 0 ≤ v3, v3 < (↑(List.length x0) : Int), True, (!g106_0 (List.getD x0 (Int.toNat v3) (ByteArray.empty, 0, 0, ()))) = false, decide (v3 > 0) = true, InR .i64 (v3 - 1), 0 ≤ v3 - 1, v3 - 1 < (↑(List.length x0) : Int), 0 ≤ v3, v3 < (↑(List.length x0) : Int), (!Op.bytesLess (ByteArray.toList (List.getD x0 (Int.toNat (v3 - 1)) (ByteArray.empty, 0, 0, ())).1) (ByteArray.toList (List.getD x0 (Int.toNat v3) (ByteArray.empty, 0, 0, ())).1)) = true]) := by kernel_rfl
theorem p65_3 (v3 : Int) (x0 : List TyB1) : Am.runN tab ext65 false 36 [] 2000 [] [] [0, 3] [] [true, false, true, false] (cutAt b65 2) (E65_2 v3 x0) (L65_2 v3 x0) = some (cutAt b65 2, E65_2 (v3 + 1) (x0), L65_2 (v3 + 1) (x0), [decide (v3 < (↑(List.length x0) : Int)) = true, 0 ≤ v3, v3 < (↑(List.length x0) : Int), True, (!g106_0 (List.getD x0 (Int.toNat v3) (ByteArray.empty, 0, 0, ()))) = false, decide (v3 > 0) = true, InR .i64 (v3 - 1), 0 ≤ v3 - 1, v3 - 1 < (↑(List.length x0) : Int), 0 ≤ v3, v3 < (↑(List.length x0) : Int), (!Op.bytesLess (ByteArray.toList (List.getD x0 (Int.toNat (v3 - 1)) (ByteArray.empty, 0, 0, ())).1) (ByteArray.toList (List.getD x0 (Int.toNat v3) (ByteArray.empty, 0, 0, ())).1)) = false, InR .i64 (v3 + 1)]) := by kernel_rfl
theorem p65_4 (v3 : Int) (x0 : List TyB1) : Am.runN tab ext65 false 36 [] 2000 [] [] [0, 3] [] [true, false, false, false] (cutAt b65 2) (E65_2 v3 x0) (L65_2 v3 x0) = some (cutAt b65 2, E65_2 (v3 + 1) (x0), L65_2 (v3 + 1) (x0), [decide (v3 < (↑(List.length x0) : Int)) = true, 0 ≤ v3, v3 < (↑(List.length x0) : Int), True, (!g106_0 (List.getD x0 (Int.toNat v3) (ByteArray.empty, 0, 0, ()))) = false, decide (v3 > 0) = false, false = false, InR .i64 (v3 + 1)]) := by kernel_rfl
theorem p65_5 (v3 : Int) (x0 : List TyB1) : runF tab ext65 false 36 [] 2000 [] oks65 kds65 tys65 Tryz.f65.results [false] (cutAt b65 2) (E65_2 v3 x0) (L65_2 v3 x0) = some ([Dyn.mk Ty.bool (decide ((↑(List.length x0) : Int) ≤ 12))], [], [decide (v3 < (↑(List.length x0) : Int)) = false]) := by kernel_rfl
theorem snd65 : ∀ n, (∀ (x0 : List TyB1) ds, R65 n x0 ds → ∀ K q, AtV Tryz.prog 65 (PostR kds65 oks65 ds [] [] q K) 36 K q [] [.code b65] (entE 0 0 sig65 (x0, ())) (entL sig65 (x0, ()))) ∧ (∀ (v3 : Int) (x0 : List TyB1) ds, R65_2 n v3 x0 ds → ∀ K q, AtV Tryz.prog 65 (PostR kds65 oks65 ds [] [] q K) 36 K q [] (cutAt b65 2) (E65_2 v3 x0) (L65_2 v3 x0)) := by
  intro n
  induction n with
  | zero => exact ⟨fun _ _ h => by simp only [R65] at h, fun _ _ _ h => by simp only [R65_2] at h⟩
  | succ n ih =>
  obtain ⟨ih, ih2⟩ := ih
  refine ⟨?_, ?_⟩
  · intro x0 ds h K q
    rw [R65] at h
    exact AtV.runN tabOk ext65Ok mixed (p65_0 x0) trivial (ih2 _ _ _ h K q)

  · intro v3 x0 ds h K q
    rw [R65_2] at h
    by_cases b0 : (decide (v3 < (↑(List.length x0) : Int))) = true
    · rw [if_pos b0] at h
      obtain ⟨s0, s1, h⟩ := h
      by_cases b1 : (!g106_0 (List.getD x0 (Int.toNat v3) (ByteArray.empty, 0, 0, ()))) = true
      · rw [if_pos b1] at h
        subst h
        exact AtV.fin Tryz.func65 tabOk ext65Ok mixed (p65_1 v3 x0) ⟨b0, s0, s1, trivial, b1, rfl, trivial⟩
      · rw [if_neg b1] at h
        replace b1 := Bool.eq_false_iff.2 b1
        by_cases b2 : (decide (v3 > 0)) = true
        · rw [if_pos b2] at h
          obtain ⟨s2, h⟩ := h
          obtain ⟨s3, s4, h⟩ := h
          obtain ⟨s5, s6, h⟩ := h
          by_cases b3 : (!Op.bytesLess (ByteArray.toList (List.getD x0 (Int.toNat (v3 - 1)) (ByteArray.empty, 0, 0, ())).1) (ByteArray.toList (List.getD x0 (Int.toNat v3) (ByteArray.empty, 0, 0, ())).1)) = true
          · rw [if_pos b3] at h
            subst h
            exact AtV.fin Tryz.func65 tabOk ext65Ok mixed (p65_2 v3 x0) ⟨b0, s0, s1, trivial, b1, b2, s2, s3, s4, s5, s6, b3, trivial⟩
          · rw [if_neg b3] at h
            replace b3 := Bool.eq_false_iff.2 b3
            obtain ⟨s7, h⟩ := h
            exact AtV.runN tabOk ext65Ok mixed (p65_3 v3 x0) ⟨b0, s0, s1, trivial, b1, b2, s2, s3, s4, s5, s6, b3, s7, trivial⟩ (ih2 _ _ _ h K q)
        · rw [if_neg b2] at h
          replace b2 := Bool.eq_false_iff.2 b2
          obtain ⟨s2, h⟩ := h
          exact AtV.runN tabOk ext65Ok mixed (p65_4 v3 x0) ⟨b0, s0, s1, trivial, b1, b2, rfl, s2, trivial⟩ (ih2 _ _ _ h K q)
    · rw [if_neg b0] at h
      replace b0 := Bool.eq_false_iff.2 b0
      subst h
      exact AtV.fin Tryz.func65 tabOk ext65Ok mixed (p65_5 v3 x0) ⟨b0, trivial⟩



def ok65 (x0 : List TyB1) (i : Nat) (x : TyB1) : Bool :=
  g106_0 x && (i == 0 || Op.bytesLess (ByteArray.toList (x0.getD (i - 1) (ByteArray.empty, (0 : Int), (0 : Int), ())).1) (ByteArray.toList x.1))
def g65_0 (x0 : List TyB1) : Bool := allI (ok65 x0) 0 x0 && decide (x0.length ≤ 12)
def P65 (x0 : List TyB1) : Prop := True

theorem step65 (n i : Nat) (x0 : List TyB1) (hm : x0.length ≤ maxLen) (hi : i < x0.length) (ds : List Dyn) :
    (if ok65 x0 i (x0.getD i (ByteArray.empty, (0 : Int), (0 : Int), ())) = true then R65_2 n ((i : Int) + 1) x0 ds else ds = [⟨.bool, false⟩]) → R65_2 (n + 1) (i : Int) x0 ds := by
  intro h
  have hu := inR_up hm hi
  rw [R65_2, if_pos (by simp; omega)]
  refine ⟨by omega, by omega, ?_⟩
  simp only [Int.toNat_natCast]
  unfold ok65 at h
  cases h1 : g106_0 (x0.getD i (ByteArray.empty, (0 : Int), (0 : Int), ())) with
  | false =>
    rw [h1] at h
    rw [if_pos (by rfl)]
    simpa using h
  | true =>
    rw [h1] at h
    rw [if_neg (by simp)]
    by_cases h0 : (i : Int) > 0
    · rw [if_pos (by simpa using h0)]
      have hi0 : (i == 0) = false := by simp; omega
      have e : ((i : Int) - 1).toNat = i - 1 := by omega
      refine ⟨by rw [i64_iff]; have : maxLen ≤ 9223372036854775807 := by decide
                 omega, by omega, by omega, by omega, by omega, ?_⟩
      rw [e]
      by_cases h2 : Op.bytesLess (ByteArray.toList (x0.getD (i - 1) (ByteArray.empty, (0 : Int), (0 : Int), ())).1) (ByteArray.toList (x0.getD i (ByteArray.empty, (0 : Int), (0 : Int), ())).1) = true
      · rw [h2, hi0] at h
        rw [if_neg (by rw [h2]; simp)]
        exact ⟨hu, by simpa using h⟩
      · have h2 := Bool.eq_false_iff.2 h2
        rw [h2, hi0] at h
        rw [if_pos (by rw [h2]; rfl)]
        simpa using h
    · rw [if_neg (by simpa using h0)]
      have hi0 : (i == 0) = true := by simp; omega
      rw [hi0] at h
      exact ⟨hu, by simpa using h⟩

theorem top65 (x0 : List TyB1) (hw : x0.length ≤ maxLen) : R65 (x0.length + 1 + 1) x0 [⟨.bool, g65_0 x0⟩] := by
  rw [R65]
  have key := loop_testI x0 (ByteArray.empty, (0 : Int), (0 : Int), ()) (ok65 x0) [(⟨.bool, false⟩ : Dyn)] [⟨.bool, decide (x0.length ≤ 12)⟩] (fun n i ds => R65_2 n i x0 ds) (fun n => ?_) (fun n i hi hok ds hr => ?_) (fun n i hi hok => ?_)
  · unfold g65_0
    cases h : allI (ok65 x0) 0 x0 with
    | true => rw [if_pos h] at key; simpa using key
    | false => rw [if_neg (by rw [h]; simp)] at key; simpa using key
  · rw [R65_2, if_neg (by simp)]
    have hc : decide ((x0.length : Int) ≤ 12) = decide (x0.length ≤ 12) := by
      congr 1; exact propext ⟨fun h => by omega, fun h => by omega⟩
    rw [hc]
  · exact step65 n i x0 hw hi ds (by rw [if_pos hok]; exact hr)
  · exact step65 n i x0 hw hi _ (by rw [if_neg (by rw [hok]; simp)])

def S65 : Am.Spec := { sig := sig65, pre := fun ⟨x0, _⟩ => P65 x0, res := fun ⟨x0, _⟩ => [⟨Ty.bool, g65_0 x0⟩] }
theorem con65 : Contract Tryz.prog 65 S65 := contract_of Tryz.func65 hb65 (Nat.le_of_ble_eq_true (by kernel_rfl)) (fun ⟨x0, _⟩ h hwf K q =>
  (snd65 _).1 x0 _ (top65 x0 hwf.1.1) K q)

end
end Go.Proofs.YtcakiedjgnhjcaaGreat

/- Function 66 (spec.l16Ok): its runs between cut points. Written by a program of this repo (gen). -/
set_option linter.unusedVariables false
set_option linter.unusedSimpArgs false
set_option maxRecDepth 100000
namespace Go.Proofs.YtcakiedjgnhjcaaGreat
open Go Go.Am Go.Proofs
noncomputable section
def ext66 : Ext := [(103, S103)]
theorem call66_103 : Callable Tryz.prog 103 := ⟨Tryz.f103, Tryz.func103, by kernel_rfl, by kernel_rfl⟩
theorem ext66Ok : ExtOk Tryz.prog ext66 := ⟨⟨call66_103, con103⟩, trivial⟩

noncomputable def b66 : Code := bodyOf Tryz.f66
theorem hb66 : Tryz.f66.body = some b66 := by kernel_rfl
def sig66 : List AT := [AT.p (Ty.cons (Ty.int .i64) (Ty.cons (Ty.int .i64) (Ty.cons (Ty.int .i64) (Ty.cons (Ty.int .i64) Ty.unit))))]
def tys66 : List Ty := [Ty.bool]
def kds66 : List RK := []
def oks66 : List AT := owns sig66
def P66 (x0 : Int × Int × Int × Int × Unit) : Prop := True
def g66_0 (x0 : Int × Int × Int × Int × Unit) : Bool := (if (g103_0 x0.1 1 20000) = true then (if (g103_0 x0.2.1 1 1000) = true then (if (g103_0 x0.2.2.1 0 10000000) = true then g103_0 x0.2.2.2.1 0 1000 else false) else false) else false)
theorem p66_0 (x0 : Int × Int × Int × Int × Unit) : runF tab ext66 false 29 [] 2000 [] oks66 kds66 tys66 Tryz.f66.results [true, true, true] [.code b66] (entE 0 0 sig66 (x0, ())) (entL sig66 (x0, ())) = some ([Dyn.mk Ty.bool (g103_0 x0.2.2.2.1 0 1000)], [], [True, g103_0 x0.1 1 20000 = true, True, g103_0 x0.2.1 1 1000 = true, True, g103_0 x0.2.2.1 0 10000000 = true, True]) := by kernel_rfl
theorem p66_1 (x0 : Int × Int × Int × Int × Unit) : runF tab ext66 false 29 [] 2000 [] oks66 kds66 tys66 Tryz.f66.results [true, true, false] [.code b66] (entE 0 0 sig66 (x0, ())) (entL sig66 (x0, ())) = some ([Dyn.mk Ty.bool false], [], [True, g103_0 x0.1 1 20000 = true, True, g103_0 x0.2.1 1 1000 = true, True, g103_0 x0.2.2.1 0 10000000 = false]) := by kernel_rfl
theorem p66_2 (x0 : Int × Int × Int × Int × Unit) : runF tab ext66 false 29 [] 2000 [] oks66 kds66 tys66 Tryz.f66.results [true, false, false] [.code b66] (entE 0 0 sig66 (x0, ())) (entL sig66 (x0, ())) = some ([Dyn.mk Ty.bool false], [], [True, g103_0 x0.1 1 20000 = true, True, g103_0 x0.2.1 1 1000 = false, false = false]) := by kernel_rfl
theorem p66_3 (x0 : Int × Int × Int × Int × Unit) : runF tab ext66 false 29 [] 2000 [] oks66 kds66 tys66 Tryz.f66.results [false, false, false] [.code b66] (entE 0 0 sig66 (x0, ())) (entL sig66 (x0, ())) = some ([Dyn.mk Ty.bool false], [], [True, g103_0 x0.1 1 20000 = false, false = false, false = false]) := by kernel_rfl
theorem at66 (x0 : Int × Int × Int × Int × Unit) (h : P66 x0) (K : Ctx) (q : Nat → Value) : AtV Tryz.prog 66 (PostR kds66 oks66 [⟨Ty.bool, g66_0 x0⟩] [] [] q K) 29 K q [] [.code b66] (entE 0 0 sig66 (x0, ())) (entL sig66 (x0, ())) := by
  unfold P66 at h
  unfold g66_0
  by_cases b0 : (g103_0 x0.1 1 20000) = true
  · try simp only [if_pos b0] at h ⊢
    by_cases b1 : (g103_0 x0.2.1 1 1000) = true
    · try simp only [if_pos b1] at h ⊢
      by_cases b2 : (g103_0 x0.2.2.1 0 10000000) = true
      · try simp only [if_pos b2] at h ⊢
        exact AtV.fin Tryz.func66 tabOk ext66Ok mixed (p66_0 x0) ⟨trivial, b0, trivial, b1, trivial, b2, trivial, trivial⟩
      · try simp only [if_neg b2] at h ⊢
        replace b2 := Bool.eq_false_iff.2 b2
        exact AtV.fin Tryz.func66 tabOk ext66Ok mixed (p66_1 x0) ⟨trivial, b0, trivial, b1, trivial, b2, trivial⟩
    · try simp only [if_neg b1] at h ⊢
      replace b1 := Bool.eq_false_iff.2 b1
      exact AtV.fin Tryz.func66 tabOk ext66Ok mixed (p66_2 x0) ⟨trivial, b0, trivial, b1, rfl, trivial⟩
  · try simp only [if_neg b0] at h ⊢
    replace b0 := Bool.eq_false_iff.2 b0
    exact AtV.fin Tryz.func66 tabOk ext66Ok mixed (p66_3 x0) ⟨trivial, b0, rfl, rfl, trivial⟩

def S66 : Am.Spec := { sig := sig66, pre := fun ⟨x0, _⟩ => P66 x0, res := fun ⟨x0, _⟩ => [⟨Ty.bool, g66_0 x0⟩], kds := kds66 }
theorem con66 : Contract Tryz.prog 66 S66 := contract_of Tryz.func66 hb66 (Nat.le_of_ble_eq_true (by kernel_rfl)) (fun ⟨x0, _⟩ h _ K q => at66 x0 h K q)


end
end Go.Proofs.YtcakiedjgnhjcaaGreat

/- Function 107 (spec.l18One): its runs between cut points. Written by a program of this repo (gen). -/
set_option linter.unusedVariables false
set_option linter.unusedSimpArgs false
set_option maxRecDepth 100000
namespace Go.Proofs.YtcakiedjgnhjcaaGreat
open Go Go.Am Go.Proofs
noncomputable section
def ext107 : Ext := [(121, S121), (103, S103)]
theorem call107_121 : Callable Tryz.prog 121 := ⟨Tryz.f121, Tryz.func121, by kernel_rfl, by kernel_rfl⟩
theorem call107_103 : Callable Tryz.prog 103 := ⟨Tryz.f103, Tryz.func103, by kernel_rfl, by kernel_rfl⟩
theorem ext107Ok : ExtOk Tryz.prog ext107 := ⟨⟨call107_121, con121⟩, ⟨call107_103, con103⟩, trivial⟩

noncomputable def b107 : Code := bodyOf Tryz.f107
theorem hb107 : Tryz.f107.body = some b107 := by kernel_rfl
def sig107 : List AT := [AT.p (Ty.cons Ty.str (Ty.cons (Ty.int .i64) (Ty.cons (Ty.int .i64) (Ty.cons (Ty.int .i64) Ty.unit))))]
def tys107 : List Ty := [Ty.bool]
def kds107 : List RK := []
def oks107 : List AT := owns sig107
def P107 (x0 : ByteArray × Int × Int × Int × Unit) : Prop := True
def g107_0 (x0 : ByteArray × Int × Int × Int × Unit) : Bool := (if (g121_0 x0.1) = true then (if (g103_0 x0.2.1 0 100000) = true then (if (g103_0 x0.2.2.1 1 1000) = true then g103_0 x0.2.2.2.1 1 400 else false) else false) else false)
theorem p107_0 (x0 : ByteArray × Int × Int × Int × Unit) : runF tab ext107 false 29 [] 2000 [] oks107 kds107 tys107 Tryz.f107.results [true, true, true] [.code b107] (entE 0 0 sig107 (x0, ())) (entL sig107 (x0, ())) = some ([Dyn.mk Ty.bool (g103_0 x0.2.2.2.1 1 400)], [], [True, g121_0 x0.1 = true, True, g103_0 x0.2.1 0 100000 = true, True, g103_0 x0.2.2.1 1 1000 = true, True]) := by kernel_rfl
theorem p107_1 (x0 : ByteArray × Int × Int × Int × Unit) : runF tab ext107 false 29 [] 2000 [] oks107 kds107 tys107 Tryz.f107.results [true, true, false] [.code b107] (entE 0 0 sig107 (x0, ())) (entL sig107 (x0, ())) = some ([Dyn.mk Ty.bool false], [], [True, g121_0 x0.1 = true, True, g103_0 x0.2.1 0 100000 = true, True, g103_0 x0.2.2.1 1 1000 = false]) := by kernel_rfl
theorem p107_2 (x0 : ByteArray × Int × Int × Int × Unit) : runF tab ext107 false 29 [] 2000 [] oks107 kds107 tys107 Tryz.f107.results [true, false, false] [.code b107] (entE 0 0 sig107 (x0, ())) (entL sig107 (x0, ())) = some ([Dyn.mk Ty.bool false], [], [True, g121_0 x0.1 = true, True, g103_0 x0.2.1 0 100000 = false, false = false]) := by kernel_rfl
theorem p107_3 (x0 : ByteArray × Int × Int × Int × Unit) : runF tab ext107 false 29 [] 2000 [] oks107 kds107 tys107 Tryz.f107.results [false, false, false] [.code b107] (entE 0 0 sig107 (x0, ())) (entL sig107 (x0, ())) = some ([Dyn.mk Ty.bool false], [], [True, g121_0 x0.1 = false, false = false, false = false]) := by kernel_rfl
theorem at107 (x0 : ByteArray × Int × Int × Int × Unit) (h : P107 x0) (K : Ctx) (q : Nat → Value) : AtV Tryz.prog 107 (PostR kds107 oks107 [⟨Ty.bool, g107_0 x0⟩] [] [] q K) 29 K q [] [.code b107] (entE 0 0 sig107 (x0, ())) (entL sig107 (x0, ())) := by
  unfold P107 at h
  unfold g107_0
  by_cases b0 : (g121_0 x0.1) = true
  · try simp only [if_pos b0] at h ⊢
    by_cases b1 : (g103_0 x0.2.1 0 100000) = true
    · try simp only [if_pos b1] at h ⊢
      by_cases b2 : (g103_0 x0.2.2.1 1 1000) = true
      · try simp only [if_pos b2] at h ⊢
        exact AtV.fin Tryz.func107 tabOk ext107Ok mixed (p107_0 x0) ⟨trivial, b0, trivial, b1, trivial, b2, trivial, trivial⟩
      · try simp only [if_neg b2] at h ⊢
        replace b2 := Bool.eq_false_iff.2 b2
        exact AtV.fin Tryz.func107 tabOk ext107Ok mixed (p107_1 x0) ⟨trivial, b0, trivial, b1, trivial, b2, trivial⟩
    · try simp only [if_neg b1] at h ⊢
      replace b1 := Bool.eq_false_iff.2 b1
      exact AtV.fin Tryz.func107 tabOk ext107Ok mixed (p107_2 x0) ⟨trivial, b0, trivial, b1, rfl, trivial⟩
  · try simp only [if_neg b0] at h ⊢
    replace b0 := Bool.eq_false_iff.2 b0
    exact AtV.fin Tryz.func107 tabOk ext107Ok mixed (p107_3 x0) ⟨trivial, b0, rfl, rfl, trivial⟩

def S107 : Am.Spec := { sig := sig107, pre := fun ⟨x0, _⟩ => P107 x0, res := fun ⟨x0, _⟩ => [⟨Ty.bool, g107_0 x0⟩], kds := kds107 }
theorem con107 : Contract Tryz.prog 107 S107 := contract_of Tryz.func107 hb107 (Nat.le_of_ble_eq_true (by kernel_rfl)) (fun ⟨x0, _⟩ h _ K q => at107 x0 h K q)


end
end Go.Proofs.YtcakiedjgnhjcaaGreat

/- Function 67 (spec.l18Ok): its runs between cut points. Written by a program of this repo (gen). -/
set_option linter.unusedVariables false
set_option linter.unusedSimpArgs false
set_option maxRecDepth 100000
namespace Go.Proofs.YtcakiedjgnhjcaaGreat
open Go Go.Am Go.Proofs
noncomputable section
def ext67 : Ext := [(107, S107)]
theorem call67_107 : Callable Tryz.prog 107 := ⟨Tryz.f107, Tryz.func107, by kernel_rfl, by kernel_rfl⟩
theorem ext67Ok : ExtOk Tryz.prog ext67 := ⟨⟨call67_107, con107⟩, trivial⟩

noncomputable def b67 : Code := bodyOf Tryz.f67
theorem hb67 : Tryz.f67.body = some b67 := by kernel_rfl
def sig67 : List AT := [AT.v (Ty.sl (Ty.cons Ty.str (Ty.cons (Ty.int .i64) (Ty.cons (Ty.int .i64) (Ty.cons (Ty.int .i64) Ty.unit)))))]
def tys67 : List Ty := [Ty.bool]
def kds67 : List RK := []
def oks67 : List AT := owns sig67
def E67_2 (v3 : Int) (x0 : List TyB0) : Env := [(0, PV.a (Atom.sl (Ty.cons Ty.str (Ty.cons (Ty.int .i64) (Ty.cons (Ty.int .i64) (Ty.cons (Ty.int .i64) Ty.unit)))) x0)), (3, PV.a (Atom.val (Value.int .i64 v3)))]
def L67_2 (v3 : Int) (x0 : List TyB0) : Heap := []
mutual
def R67 : Nat → List TyB0 → List Dyn → Prop
  | 0, _, _ => False
  | n + 1, x0, ds => (R67_2 n (0) (x0) ds)
def R67_2 : Nat → Int → List TyB0 → List Dyn → Prop
  | 0, _, _, _ => False
  | n + 1, v3, x0, ds => (if (decide (v3 < (↑(List.length x0) : Int))) = true then ((0 ≤ v3) ∧ (v3 < (↑(List.length x0) : Int)) ∧ (if (!g107_0 (List.getD x0 (Int.toNat v3) (ByteArray.empty, 0, 0, 0, ()))) = true then (ds = [Dyn.mk Ty.bool false]) else (if (decide (v3 > 0)) = true then ((InR .i64 (v3 - 1)) ∧ ((0 ≤ v3 - 1) ∧ (v3 - 1 < (↑(List.length x0) : Int)) ∧ ((0 ≤ v3) ∧ (v3 < (↑(List.length x0) : Int)) ∧ (if (!Op.bytesLess (ByteArray.toList (List.getD x0 (Int.toNat (v3 - 1)) (ByteArray.empty, 0, 0, 0, ())).1) (ByteArray.toList (List.getD x0 (Int.toNat v3) (ByteArray.empty, 0, 0, 0, ())).1)) = true then (ds = [Dyn.mk Ty.bool false]) else ((InR .i64 (v3 + 1)) ∧ (R67_2 n (v3 + 1) (x0) ds)))))) else ((InR .i64 (v3 + 1)) ∧ (R67_2 n (v3 + 1) (x0) ds))))) else (ds = [Dyn.mk Ty.bool (decide ((↑(List.length x0) : Int) ≤ 8))]))
end
theorem p67_0 (x0 : List TyB0) : Am.runN tab ext67 false 36 [] 2000 [] [] [0, 3] [] [] [.code b67] (entE 0 0 sig67 (x0, ())) (entL sig67 (x0, ())) = some (cutAt b67 2, E67_2 (0) (x0), L67_2 (0) (x0), []) := by kernel_rfl
theorem p67_1 (v3 : Int) (x0 : List TyB0) : runF tab ext67 false 36 [] 2000 [] oks67 kds67 tys67 Tryz.f67.results [true, true, true] (cutAt b67 2) (E67_2 v3 x0) (L67_2 v3 x0) = some ([Dyn.mk Ty.bool false], [], [decide (v3 < (↑(List.length x0) : Int)) = true, 0 ≤ v3, v3 < (↑(List.length x0) : Int), True, (!g107_0 (List.getD x0 (Int.toNat v3) (ByteArray.empty, 0, 0, 0, ()))) = true, true = true]) := by kernel_rfl
theorem p67_2 (v3 : Int) (x0 : List TyB0) : runF tab ext67 false 36 [] 2000 [] oks67 kds67 tys67 Tryz.f67.results [true, false, true, true] (cutAt b67 2) (E67_2 v3 x0) (L67_2 v3 x0) = some ([Dyn.mk Ty.bool false], [], [decide (v3 < (↑(List.length x0) : Int)) = true, 0 ≤ v3, v3 < (↑(List.length x0) : Int), True, (!g107_0 (List.getD x0 (Int.toNat v3) (ByteArray.empty, 0, 0, 0, ()))) = false, decide (v3 > 0) = true, InR .i64 (v3 - 1), 0 ≤ v3 - 1, v3 - 1 < (↑(List.length x0) : Int), 0 ≤ v3, v3 < (↑(List.length x0) : Int), (!Op.bytesLess (ByteArray.toList (List.getD x0 (Int.toNat (v3 - 1)) (ByteArray.empty, 0, 0, 0, ())).1) (ByteArray.toList (List.getD x0 (Int.toNat v3) (ByteArray.empty, 0, 0, 0, ())).1)) = true]) := by kernel_rfl
theorem p67_3 (v3 : Int) (x0 : List TyB0) : Am.runN tab ext67 false 36 [] 2000 [] [] [0, 3] [] [true, false, true, false] (cutAt b67 2) (E67_2 v3 x0) (L67_2 v3 x0) = some (cutAt b67 2, E67_2 (v3 + 1) (x0), L67_2 (v3 + 1) (x0), [decide (v3 < (↑(List.length x0) : Int)) = true, 0 ≤ v3, v3 < (↑(List.length x0) : Int), True, (!g107_0 (List.getD x0 (Int.toNat v3) (ByteArray.empty, 0, 0, 0, ()))) = false, decide (v3 > 0) = true, InR .i64 (v3 - 1), 0 ≤ v3 - 1, v3 - 1 < (↑(List.length x0) : Int), 0 ≤ v3, v3 < (↑(List.length x0) : Int), (!Op.bytesLess (ByteArray.toList (List.getD x0 (Int.toNat (v3 - 1)) (ByteArray.empty, 0, 0, 0, ())).1) (ByteArray.toList (List.getD x0 (Int.toNat v3) (ByteArray.empty, 0, 0, 0, ())).1)) = false, InR .i64 (v3 + 1)]) := by kernel_rfl
theorem p67_4 (v3 : Int) (x0 : List TyB0) : Am.runN tab ext67 false 36 [] 2000 [] [] [0, 3] [] [true, false, false, false] (cutAt b67 2) (E67_2 v3 x0) (L67_2 v3 x0) = some (cutAt b67 2, E67_2 (v3 + 1) (x0), L67_2 (v3 + 1) (x0), [decide (v3 < (↑(List.length x0) : Int)) = true, 0 ≤ v3, v3 < (↑(List.length x0) : Int), True, (!g107_0 (List.getD x0 (Int.toNat v3) (ByteArray.empty, 0, 0, 0, ()))) = false, decide (v3 > 0) = false, false = false, InR .i64 (v3 + 1)]) := by kernel_rfl
theorem p67_5 (v3 : Int) (x0 : List TyB0) : runF tab ext67 false 36 [] 2000 [] oks67 kds67 tys67 Tryz.f67.results [false] (cutAt b67 2) (E67_2 v3 x0) (L67_2 v3 x0) = some ([Dyn.mk Ty.bool (decide ((↑(List.length x0) : Int) ≤ 8))], [], [decide (v3 < (↑(List.length x0) : Int)) = false]) := by kernel_rfl
theorem snd67 : ∀ n, (∀ (x0 : List TyB0) ds, R67 n x0 ds → ∀ K q, AtV Tryz.prog 67 (PostR kds67 oks67 ds [] [] q K) 36 K q [] [.code b67] (entE 0 0 sig67 (x0, ())) (entL sig67 (x0, ()))) ∧ (∀ (v3 : Int) (x0 : List TyB0) ds, R67_2 n v3 x0 ds → ∀ K q, AtV Tryz.prog 67 (PostR kds67 oks67 ds [] [] q K) 36 K q [] (cutAt b67 2) (E67_2 v3 x0) (L67_2 v3 x0)) := by
  intro n
  induction n with
  | zero => exact ⟨fun _ _ h => by simp only [R67] at h, fun _ _ _ h => by simp only [R67_2] at h⟩
  | succ n ih =>
  obtain ⟨ih, ih2⟩ := ih
  refine ⟨?_, ?_⟩
  · intro x0 ds h K q
    rw [R67] at h
    exact AtV.runN tabOk ext67Ok mixed (p67_0 x0) trivial (ih2 _ _ _ h K q)

  · intro v3 x0 ds h K q
    rw [R67_2] at h
    by_cases b0 : (decide (v3 < (↑(List.length x0) : Int))) = true
    · rw [if_pos b0] at h
      obtain ⟨s0, s1, h⟩ := h
      by_cases b1 : (!g107_0 (List.getD x0 (Int.toNat v3) (ByteArray.empty, 0, 0, 0, ()))) = true
      · rw [if_pos b1] at h
        subst h
        exact AtV.fin Tryz.func67 tabOk ext67Ok mixed (p67_1 v3 x0) ⟨b0, s0, s1, trivial, b1, rfl, trivial⟩
      · rw [if_neg b1] at h
        replace b1 := Bool.eq_false_iff.2 b1
        by_cases b2 : (decide (v3 > 0)) = true
        · rw [if_pos b2] at h
          obtain ⟨s2, h⟩ := h
          obtain ⟨s3, s4, h⟩ := h
          obtain ⟨s5, s6, h⟩ := h
          by_cases b3 : (!Op.bytesLess (ByteArray.toList (List.getD x0 (Int.toNat (v3 - 1)) (ByteArray.empty, 0, 0, 0, ())).1) (ByteArray.toList (List.getD x0 (Int.toNat v3) (ByteArray.empty, 0, 0, 0, ())).1)) = true
          · rw [if_pos b3] at h
            subst h
            exact AtV.fin Tryz.func67 tabOk ext67Ok mixed (p67_2 v3 x0) ⟨b0, s0, s1, trivial, b1, b2, s2, s3, s4, s5, s6, b3, trivial⟩
          · rw [if_neg b3] at h
            replace b3 := Bool.eq_false_iff.2 b3
            obtain ⟨s7, h⟩ := h
            exact AtV.runN tabOk ext67Ok mixed (p67_3 v3 x0) ⟨b0, s0, s1, trivial, b1, b2, s2, s3, s4, s5, s6, b3, s7, trivial⟩ (ih2 _ _ _ h K q)
        · rw [if_neg b2] at h
          replace b2 := Bool.eq_false_iff.2 b2
          obtain ⟨s2, h⟩ := h
          exact AtV.runN tabOk ext67Ok mixed (p67_4 v3 x0) ⟨b0, s0, s1, trivial, b1, b2, rfl, s2, trivial⟩ (ih2 _ _ _ h K q)
    · rw [if_neg b0] at h
      replace b0 := Bool.eq_false_iff.2 b0
      subst h
      exact AtV.fin Tryz.func67 tabOk ext67Ok mixed (p67_5 v3 x0) ⟨b0, trivial⟩



def ok67 (x0 : List TyB0) (i : Nat) (x : TyB0) : Bool :=
  g107_0 x && (i == 0 || Op.bytesLess (ByteArray.toList (x0.getD (i - 1) (ByteArray.empty, (0 : Int), (0 : Int), (0 : Int), ())).1) (ByteArray.toList x.1))
def g67_0 (x0 : List TyB0) : Bool := allI (ok67 x0) 0 x0 && decide (x0.length ≤ 8)
def P67 (x0 : List TyB0) : Prop := True

theorem step67 (n i : Nat) (x0 : List TyB0) (hm : x0.length ≤ maxLen) (hi : i < x0.length) (ds : List Dyn) :
    (if ok67 x0 i (x0.getD i (ByteArray.empty, (0 : Int), (0 : Int), (0 : Int), ())) = true then R67_2 n ((i : Int) + 1) x0 ds else ds = [⟨.bool, false⟩]) → R67_2 (n + 1) (i : Int) x0 ds := by
  intro h
  have hu := inR_up hm hi
  rw [R67_2, if_pos (by simp; omega)]
  refine ⟨by omega, by omega, ?_⟩
  simp only [Int.toNat_natCast]
  unfold ok67 at h
  cases h1 : g107_0 (x0.getD i (ByteArray.empty, (0 : Int), (0 : Int), (0 : Int), ())) with
  | false =>
    rw [h1] at h
    rw [if_pos (by rfl)]
    simpa using h
  | true =>
    rw [h1] at h
    rw [if_neg (by simp)]
    by_cases h0 : (i : Int) > 0
    · rw [if_pos (by simpa using h0)]
      have hi0 : (i == 0) = false := by simp; omega
      have e : ((i : Int) - 1).toNat = i - 1 := by omega
      refine ⟨by rw [i64_iff]; have : maxLen ≤ 9223372036854775807 := by decide
                 omega, by omega, by omega, by omega, by omega, ?_⟩
      rw [e]
      by_cases h2 : Op.bytesLess (ByteArray.toList (x0.getD (i - 1) (ByteArray.empty, (0 : Int), (0 : Int), (0 : Int), ())).1) (ByteArray.toList (x0.getD i (ByteArray.empty, (0 : Int), (0 : Int), (0 : Int), ())).1) = true
      · rw [h2, hi0] at h
        rw [if_neg (by rw [h2]; simp)]
        exact ⟨hu, by simpa using h⟩
      · have h2 := Bool.eq_false_iff.2 h2
        rw [h2, hi0] at h
        rw [if_pos (by rw [h2]; rfl)]
        simpa using h
    · rw [if_neg (by simpa using h0)]
      have hi0 : (i == 0) = true := by simp; omega
      rw [hi0] at h
      exact ⟨hu, by simpa using h⟩

theorem top67 (x0 : List TyB0) (hw : x0.length ≤ maxLen) : R67 (x0.length + 1 + 1) x0 [⟨.bool, g67_0 x0⟩] := by
  rw [R67]
  have key := loop_testI x0 (ByteArray.empty, (0 : Int), (0 : Int), (0 : Int), ()) (ok67 x0) [(⟨.bool, false⟩ : Dyn)] [⟨.bool, decide (x0.length ≤ 8)⟩] (fun n i ds => R67_2 n i x0 ds) (fun n => ?_) (fun n i hi hok ds hr => ?_) (fun n i hi hok => ?_)
  · unfold g67_0
    cases h : allI (ok67 x0) 0 x0 with
    | true => rw [if_pos h] at key; simpa using key
    | false => rw [if_neg (by rw [h]; simp)] at key; simpa using key
  · rw [R67_2, if_neg (by simp)]
    have hc : decide ((x0.length : Int) ≤ 8) = decide (x0.length ≤ 8) := by
      congr 1; exact propext ⟨fun h => by omega, fun h => by omega⟩
    rw [hc]
  · exact step67 n i x0 hw hi ds (by rw [if_pos hok]; exact hr)
  · exact step67 n i x0 hw hi _ (by rw [if_neg (by rw [hok]; simp)])

def S67 : Am.Spec := { sig := sig67, pre := fun ⟨x0, _⟩ => P67 x0, res := fun ⟨x0, _⟩ => [⟨Ty.bool, g67_0 x0⟩] }
theorem con67 : Contract Tryz.prog 67 S67 := contract_of Tryz.func67 hb67 (Nat.le_of_ble_eq_true (by kernel_rfl)) (fun ⟨x0, _⟩ h hwf K q =>
  (snd67 _).1 x0 _ (top67 x0 hwf.1.1) K q)

end
end Go.Proofs.YtcakiedjgnhjcaaGreat

/- Function 130 (spec.l02Day): its runs between cut points. Written by a program of this repo (gen). -/
set_option linter.unusedVariables false
set_option linter.unusedSimpArgs false
set_option maxRecDepth 100000
namespace Go.Proofs.YtcakiedjgnhjcaaGreat
open Go Go.Am Go.Proofs
noncomputable section
def ext130 : Ext := [(103, S103)]
theorem call130_103 : Callable Tryz.prog 103 := ⟨Tryz.f103, Tryz.func103, by kernel_rfl, by kernel_rfl⟩
theorem ext130Ok : ExtOk Tryz.prog ext130 := ⟨⟨call130_103, con103⟩, trivial⟩

noncomputable def b130 : Code := bodyOf Tryz.f130
theorem hb130 : Tryz.f130.body = some b130 := by kernel_rfl
def sig130 : List AT := [AT.v (Ty.int .i64)]
def tys130 : List Ty := [Ty.bool]
def kds130 : List RK := []
def oks130 : List AT := owns sig130
def P130 (x0 : Int) : Prop := True
def g130_0 (x0 : Int) : Bool := g103_0 x0 0 36524
theorem p130_0 (x0 : Int) : runF tab ext130 false 5 [] 2000 [] oks130 kds130 tys130 Tryz.f130.results [] [.code b130] (entE 0 0 sig130 (x0, ())) (entL sig130 (x0, ())) = some ([Dyn.mk Ty.bool (g103_0 x0 0 36524)], [], [True]) := by kernel_rfl
theorem at130 (x0 : Int) (h : P130 x0) (K : Ctx) (q : Nat → Value) : AtV Tryz.prog 130 (PostR kds130 oks130 [⟨Ty.bool, g130_0 x0⟩] [] [] q K) 5 K q [] [.code b130] (entE 0 0 sig130 (x0, ())) (entL sig130 (x0, ())) := by
  unfold P130 at h
  unfold g130_0
  exact AtV.fin Tryz.func130 tabOk ext130Ok mixed (p130_0 x0) ⟨trivial, trivial⟩

def S130 : Am.Spec := { sig := sig130, pre := fun ⟨x0, _⟩ => P130 x0, res := fun ⟨x0, _⟩ => [⟨Ty.bool, g130_0 x0⟩], kds := kds130 }
theorem con130 : Contract Tryz.prog 130 S130 := contract_of Tryz.func130 hb130 (Nat.le_of_ble_eq_true (by kernel_rfl)) (fun ⟨x0, _⟩ h _ K q => at130 x0 h K q)


end
end Go.Proofs.YtcakiedjgnhjcaaGreat

/- Function 131 (spec.l22Broken): its runs between cut points. Written by a program of this repo (gen). -/
set_option linter.unusedVariables false
set_option linter.unusedSimpArgs false
set_option maxRecDepth 100000
namespace Go.Proofs.YtcakiedjgnhjcaaGreat
open Go Go.Am Go.Proofs
noncomputable section
def ext131 : Ext := [(103, S103)]
theorem call131_103 : Callable Tryz.prog 103 := ⟨Tryz.f103, Tryz.func103, by kernel_rfl, by kernel_rfl⟩
theorem ext131Ok : ExtOk Tryz.prog ext131 := ⟨⟨call131_103, con103⟩, trivial⟩

noncomputable def b131 : Code := bodyOf Tryz.f131
theorem hb131 : Tryz.f131.body = some b131 := by kernel_rfl
def sig131 : List AT := [AT.v (Ty.int .i64)]
def tys131 : List Ty := [Ty.bool]
def kds131 : List RK := []
def oks131 : List AT := owns sig131
def P131 (x0 : Int) : Prop := True
def g131_0 (x0 : Int) : Bool := g103_0 x0 0 24000
theorem p131_0 (x0 : Int) : runF tab ext131 false 5 [] 2000 [] oks131 kds131 tys131 Tryz.f131.results [] [.code b131] (entE 0 0 sig131 (x0, ())) (entL sig131 (x0, ())) = some ([Dyn.mk Ty.bool (g103_0 x0 0 24000)], [], [True]) := by kernel_rfl
theorem at131 (x0 : Int) (h : P131 x0) (K : Ctx) (q : Nat → Value) : AtV Tryz.prog 131 (PostR kds131 oks131 [⟨Ty.bool, g131_0 x0⟩] [] [] q K) 5 K q [] [.code b131] (entE 0 0 sig131 (x0, ())) (entL sig131 (x0, ())) := by
  unfold P131 at h
  unfold g131_0
  exact AtV.fin Tryz.func131 tabOk ext131Ok mixed (p131_0 x0) ⟨trivial, trivial⟩

def S131 : Am.Spec := { sig := sig131, pre := fun ⟨x0, _⟩ => P131 x0, res := fun ⟨x0, _⟩ => [⟨Ty.bool, g131_0 x0⟩], kds := kds131 }
theorem con131 : Contract Tryz.prog 131 S131 := contract_of Tryz.func131 hb131 (Nat.le_of_ble_eq_true (by kernel_rfl)) (fun ⟨x0, _⟩ h _ K q => at131 x0 h K q)


end
end Go.Proofs.YtcakiedjgnhjcaaGreat

/- Function 124 (spec.l22One): its runs between cut points. Written by a program of this repo (gen). -/
set_option linter.unusedVariables false
set_option linter.unusedSimpArgs false
set_option maxRecDepth 100000
namespace Go.Proofs.YtcakiedjgnhjcaaGreat
open Go Go.Am Go.Proofs
noncomputable section
def ext124 : Ext := [(130, S130), (131, S131), (103, S103)]
theorem call124_130 : Callable Tryz.prog 130 := ⟨Tryz.f130, Tryz.func130, by kernel_rfl, by kernel_rfl⟩
theorem call124_131 : Callable Tryz.prog 131 := ⟨Tryz.f131, Tryz.func131, by kernel_rfl, by kernel_rfl⟩
theorem call124_103 : Callable Tryz.prog 103 := ⟨Tryz.f103, Tryz.func103, by kernel_rfl, by kernel_rfl⟩
theorem ext124Ok : ExtOk Tryz.prog ext124 := ⟨⟨call124_130, con130⟩, ⟨call124_131, con131⟩, ⟨call124_103, con103⟩, trivial⟩

noncomputable def b124 : Code := bodyOf Tryz.f124
theorem hb124 : Tryz.f124.body = some b124 := by kernel_rfl
def sig124 : List AT := [AT.p (Ty.cons (Ty.int .i64) (Ty.cons (Ty.int .i64) (Ty.cons (Ty.int .i64) Ty.unit)))]
def tys124 : List Ty := [Ty.bool]
def kds124 : List RK := []
def oks124 : List AT := owns sig124
def P124 (x0 : Int × Int × Int × Unit) : Prop := True
def g124_0 (x0 : Int × Int × Int × Unit) : Bool := (if (g130_0 x0.1) = true then (if (g131_0 x0.2.1) = true then g103_0 x0.2.2.1 0 1000 else false) else false)
theorem p124_0 (x0 : Int × Int × Int × Unit) : runF tab ext124 false 22 [] 2000 [] oks124 kds124 tys124 Tryz.f124.results [true, true] [.code b124] (entE 0 0 sig124 (x0, ())) (entL sig124 (x0, ())) = some ([Dyn.mk Ty.bool (g103_0 x0.2.2.1 0 1000)], [], [True, g130_0 x0.1 = true, True, g131_0 x0.2.1 = true, True]) := by kernel_rfl
theorem p124_1 (x0 : Int × Int × Int × Unit) : runF tab ext124 false 22 [] 2000 [] oks124 kds124 tys124 Tryz.f124.results [true, false] [.code b124] (entE 0 0 sig124 (x0, ())) (entL sig124 (x0, ())) = some ([Dyn.mk Ty.bool false], [], [True, g130_0 x0.1 = true, True, g131_0 x0.2.1 = false]) := by kernel_rfl
theorem p124_2 (x0 : Int × Int × Int × Unit) : runF tab ext124 false 22 [] 2000 [] oks124 kds124 tys124 Tryz.f124.results [false, false] [.code b124] (entE 0 0 sig124 (x0, ())) (entL sig124 (x0, ())) = some ([Dyn.mk Ty.bool false], [], [True, g130_0 x0.1 = false, false = false]) := by kernel_rfl
theorem at124 (x0 : Int × Int × Int × Unit) (h : P124 x0) (K : Ctx) (q : Nat → Value) : AtV Tryz.prog 124 (PostR kds124 oks124 [⟨Ty.bool, g124_0 x0⟩] [] [] q K) 22 K q [] [.code b124] (entE 0 0 sig124 (x0, ())) (entL sig124 (x0, ())) := by
  unfold P124 at h
  unfold g124_0
  by_cases b0 : (g130_0 x0.1) = true
  · try simp only [if_pos b0] at h ⊢
    by_cases b1 : (g131_0 x0.2.1) = true
    · try simp only [if_pos b1] at h ⊢
      exact AtV.fin Tryz.func124 tabOk ext124Ok mixed (p124_0 x0) ⟨trivial, b0, trivial, b1, trivial, trivial⟩
    · try simp only [if_neg b1] at h ⊢
      replace b1 := Bool.eq_false_iff.2 b1
      exact AtV.fin Tryz.func124 tabOk ext124Ok mixed (p124_1 x0) ⟨trivial, b0, trivial, b1, trivial⟩
  · try simp only [if_neg b0] at h ⊢
    replace b0 := Bool.eq_false_iff.2 b0
    exact AtV.fin Tryz.func124 tabOk ext124Ok mixed (p124_2 x0) ⟨trivial, b0, rfl, trivial⟩

def S124 : Am.Spec := { sig := sig124, pre := fun ⟨x0, _⟩ => P124 x0, res := fun ⟨x0, _⟩ => [⟨Ty.bool, g124_0 x0⟩], kds := kds124 }
theorem con124 : Contract Tryz.prog 124 S124 := contract_of Tryz.func124 hb124 (Nat.le_of_ble_eq_true (by kernel_rfl)) (fun ⟨x0, _⟩ h _ K q => at124 x0 h K q)


end
end Go.Proofs.YtcakiedjgnhjcaaGreat

/- Function 108 (spec.l22Order): its runs between cut points. Written by a program of this repo (gen). -/
set_option linter.unusedVariables false
set_option linter.unusedSimpArgs false
set_option maxRecDepth 100000
namespace Go.Proofs.YtcakiedjgnhjcaaGreat
open Go Go.Am Go.Proofs
noncomputable section
def ext108 : Ext := [(124, S124)]
theorem call108_124 : Callable Tryz.prog 124 := ⟨Tryz.f124, Tryz.func124, by kernel_rfl, by kernel_rfl⟩
theorem ext108Ok : ExtOk Tryz.prog ext108 := ⟨⟨call108_124, con124⟩, trivial⟩

noncomputable def b108 : Code := bodyOf Tryz.f108
theorem hb108 : Tryz.f108.body = some b108 := by kernel_rfl
def sig108 : List AT := [AT.v (Ty.sl (Ty.cons (Ty.int .i64) (Ty.cons (Ty.int .i64) (Ty.cons (Ty.int .i64) Ty.unit))))]
def tys108 : List Ty := [Ty.bool]
def kds108 : List RK := []
def oks108 : List AT := owns sig108
def E108_2 (v3 : Int) (x0 : List TyB2) : Env := [(0, PV.a (Atom.sl (Ty.cons (Ty.int .i64) (Ty.cons (Ty.int .i64) (Ty.cons (Ty.int .i64) Ty.unit))) x0)), (3, PV.a (Atom.val (Value.int .i64 v3)))]
def L108_2 (v3 : Int) (x0 : List TyB2) : Heap := []
mutual
def R108 : Nat → List TyB2 → List Dyn → Prop
  | 0, _, _ => False
  | n + 1, x0, ds => (R108_2 n (0) (x0) ds)
def R108_2 : Nat → Int → List TyB2 → List Dyn → Prop
  | 0, _, _, _ => False
  | n + 1, v3, x0, ds => (if (decide (v3 < (↑(List.length x0) : Int))) = true then ((0 ≤ v3) ∧ (v3 < (↑(List.length x0) : Int)) ∧ (if (!g124_0 (List.getD x0 (Int.toNat v3) (0, 0, 0, ()))) = true then (ds = [Dyn.mk Ty.bool false]) else (if (decide (v3 > 0)) = true then ((InR .i64 (v3 - 1)) ∧ ((0 ≤ v3 - 1) ∧ (v3 - 1 < (↑(List.length x0) : Int)) ∧ ((0 ≤ v3) ∧ (v3 < (↑(List.length x0) : Int)) ∧ (if (decide ((List.getD x0 (Int.toNat (v3 - 1)) (0, 0, 0, ())).1 ≥ (List.getD x0 (Int.toNat v3) (0, 0, 0, ())).1)) = true then (ds = [Dyn.mk Ty.bool false]) else ((InR .i64 (v3 - 1)) ∧ ((0 ≤ v3 - 1) ∧ (v3 - 1 < (↑(List.length x0) : Int)) ∧ ((0 ≤ v3) ∧ (v3 < (↑(List.length x0) : Int)) ∧ (if (decide ((List.getD x0 (Int.toNat (v3 - 1)) (0, 0, 0, ())).2.1 > (List.getD x0 (Int.toNat v3) (0, 0, 0, ())).2.1)) = true then (ds = [Dyn.mk Ty.bool false]) else ((InR .i64 (v3 - 1)) ∧ ((0 ≤ v3 - 1) ∧ (v3 - 1 < (↑(List.length x0) : Int)) ∧ ((0 ≤ v3) ∧ (v3 < (↑(List.length x0) : Int)) ∧ (if (decide ((List.getD x0 (Int.toNat (v3 - 1)) (0, 0, 0, ())).2.2.1 > (List.getD x0 (Int.toNat v3) (0, 0, 0, ())).2.2.1)) = true then (ds = [Dyn.mk Ty.bool false]) else ((InR .i64 (v3 + 1)) ∧ (R108_2 n (v3 + 1) (x0) ds)))))))))))))) else ((InR .i64 (v3 + 1)) ∧ (R108_2 n (v3 + 1) (x0) ds))))) else (ds = [Dyn.mk Ty.bool true]))
end
theorem p108_0 (x0 : List TyB2) : Am.runN tab ext108 false 59 [] 2000 [] [] [0, 3] [] [] [.code b108] (entE 0 0 sig108 (x0, ())) (entL sig108 (x0, ())) = some (cutAt b108 2, E108_2 (0) (x0), L108_2 (0) (x0), []) := by kernel_rfl
theorem p108_1 (v3 : Int) (x0 : List TyB2) : runF tab ext108 false 59 [] 2000 [] oks108 kds108 tys108 Tryz.f108.results [true, true] (cutAt b108 2) (E108_2 v3 x0) (L108_2 v3 x0) = some ([Dyn.mk Ty.bool false], [], [decide (v3 < (↑(List.length x0) : Int)) = true, 0 ≤ v3, v3 < (↑(List.length x0) : Int), True, (!g124_0 (List.getD x0 (Int.toNat v3) (0, 0, 0, ()))) = true]) := by kernel_rfl
theorem p108_2 (v3 : Int) (x0 : List TyB2) : runF tab ext108 false 59 [] 2000 [] oks108 kds108 tys108 Tryz.f108.results [true, false, true, true, true, true] (cutAt b108 2) (E108_2 v3 x0) (L108_2 v3 x0) = some ([Dyn.mk Ty.bool false], [], [decide (v3 < (↑(List.length x0) : Int)) = true, 0 ≤ v3, v3 < (↑(List.length x0) : Int), True, (!g124_0 (List.getD x0 (Int.toNat v3) (0, 0, 0, ()))) = false, decide (v3 > 0) = true, InR .i64 (v3 - 1), 0 ≤ v3 - 1, v3 - 1 < (↑(List.length x0) : Int), 0 ≤ v3, v3 < (↑(List.length x0) : Int), decide ((List.getD x0 (Int.toNat (v3 - 1)) (0, 0, 0, ())).1 ≥ (List.getD x0 (Int.toNat v3) (0, 0, 0, ())).1) = true, true = true, true = true]) := by kernel_rfl
theorem p108_3 (v3 : Int) (x0 : List TyB2) : runF tab ext108 false 59 [] 2000 [] oks108 kds108 tys108 Tryz.f108.results [true, false, true, false, true, true] (cutAt b108 2) (E108_2 v3 x0) (L108_2 v3 x0) = some ([Dyn.mk Ty.bool false], [], [decide (v3 < (↑(List.length x0) : Int)) = true, 0 ≤ v3, v3 < (↑(List.length x0) : Int), True, (!g124_0 (List.getD x0 (Int.toNat v3) (0, 0, 0, ()))) = false, decide (v3 > 0) = true, InR .i64 (v3 - 1), 0 ≤ v3 - 1, v3 - 1 < (↑(List.length x0) : Int), 0 ≤ v3, v3 < (↑(List.length x0) : Int), decide ((List.getD x0 (Int.toNat (v3 - 1)) (0, 0, 0, ())).1 ≥ (List.getD x0 (Int.toNat v3) (0, 0, 0, ())).1) = false, InR .i64 (v3 - 1), 0 ≤ v3 - 1, v3 - 1 < (↑(List.length x0) : Int), 0 ≤ v3, v3 < (↑(List.length x0) : Int), decide ((List.getD x0 (Int.toNat (v3 - 1)) (0, 0, 0, ())).2.1 > (List.getD x0 (Int.toNat v3) (0, 0, 0, ())).2.1) = true, true = true]) := by kernel_rfl
theorem p108_4 (v3 : Int) (x0 : List TyB2) : runF tab ext108 false 59 [] 2000 [] oks108 kds108 tys108 Tryz.f108.results [true, false, true, false, false, true] (cutAt b108 2) (E108_2 v3 x0) (L108_2 v3 x0) = some ([Dyn.mk Ty.bool false], [], [decide (v3 < (↑(List.length x0) : Int)) = true, 0 ≤ v3, v3 < (↑(List.length x0) : Int), True, (!g124_0 (List.getD x0 (Int.toNat v3) (0, 0, 0, ()))) = false, decide (v3 > 0) = true, InR .i64 (v3 - 1), 0 ≤ v3 - 1, v3 - 1 < (↑(List.length x0) : Int), 0 ≤ v3, v3 < (↑(List.length x0) : Int), decide ((List.getD x0 (Int.toNat (v3 - 1)) (0, 0, 0, ())).1 ≥ (List.getD x0 (Int.toNat v3) (0, 0, 0, ())).1) = false, InR .i64 (v3 - 1), 0 ≤ v3 - 1, v3 - 1 < (↑(List.length x0) : Int), 0 ≤ v3, v3 < (↑(List.length x0) : Int), decide ((List.getD x0 (Int.toNat (v3 - 1)) (0, 0, 0, ())).2.1 > (List.getD x0 (Int.toNat v3) (0, 0, 0, ())).2.1) = false, InR .i64 (v3 - 1), 0 ≤ v3 - 1, v3 - 1 < (↑(List.length x0) : Int), 0 ≤ v3, v3 < (↑(List.length x0) : Int), decide ((List.getD x0 (Int.toNat (v3 - 1)) (0, 0, 0, ())).2.2.1 > (List.getD x0 (Int.toNat v3) (0, 0, 0, ())).2.2.1) = true]) := by kernel_rfl
theorem p108_5 (v3 : Int) (x0 : List TyB2) : Am.runN tab ext108 false 59 [] 2000 [] [] [0, 3] [] [true, false, true, false, false, false] (cutAt b108 2) (E108_2 v3 x0) (L108_2 v3 x0) = some (cutAt b108 2, E108_2 (v3 + 1) (x0), L108_2 (v3 + 1) (x0), [decide (v3 < (↑(List.length x0) : Int)) = true, 0 ≤ v3, v3 < (↑(List.length x0) : Int), True, (!g124_0 (List.getD x0 (Int.toNat v3) (0, 0, 0, ()))) = false, decide (v3 > 0) = true, InR .i64 (v3 - 1), 0 ≤ v3 - 1, v3 - 1 < (↑(List.length x0) : Int), 0 ≤ v3, v3 < (↑(List.length x0) : Int), decide ((List.getD x0 (Int.toNat (v3 - 1)) (0, 0, 0, ())).1 ≥ (List.getD x0 (Int.toNat v3) (0, 0, 0, ())).1) = false, InR .i64 (v3 - 1), 0 ≤ v3 - 1, v3 - 1 < (↑(List.length x0) : Int), 0 ≤ v3, v3 < (↑(List.length x0) : Int), decide ((List.getD x0 (Int.toNat (v3 - 1)) (0, 0, 0, ())).2.1 > (List.getD x0 (Int.toNat v3) (0, 0, 0, ())).2.1) = false, InR .i64 (v3 - 1), 0 ≤ v3 - 1, v3 - 1 < (↑(List.length x0) : Int), 0 ≤ v3, v3 < (↑(List.length x0) : Int), decide ((List.getD x0 (Int.toNat (v3 - 1)) (0, 0, 0, ())).2.2.1 > (List.getD x0 (Int.toNat v3) (0, 0, 0, ())).2.2.1) = false, InR .i64 (v3 + 1)]) := by kernel_rfl
theorem p108_6 (v3 : Int) (x0 : List TyB2) : Am.runN tab ext108 false 59 [] 2000 [] [] [0, 3] [] [true, false, false, false] (cutAt b108 2) (E108_2 v3 x0) (L108_2 v3 x0) = some (cutAt b108 2, E108_2 (v3 + 1) (x0), L108_2 (v3 + 1) (x0), [decide (v3 < (↑(List.length x0) : Int)) = true, 0 ≤ v3, v3 < (↑(List.length x0) : Int), True, (!g124_0 (List.getD x0 (Int.toNat v3) (0, 0, 0, ()))) = false, decide (v3 > 0) = false, false = false, InR .i64 (v3 + 1)]) := by kernel_rfl
theorem p108_7 (v3 : Int) (x0 : List TyB2) : runF tab ext108 false 59 [] 2000 [] oks108 kds108 tys108 Tryz.f108.results [false] (cutAt b108 2) (E108_2 v3 x0) (L108_2 v3 x0) = some ([Dyn.mk Ty.bool true], [], [decide (v3 < (↑(List.length x0) : Int)) = false]) := by kernel_rfl
theorem snd108 : ∀ n, (∀ (x0 : List TyB2) ds, R108 n x0 ds → ∀ K q, AtV Tryz.prog 108 (PostR kds108 oks108 ds [] [] q K) 59 K q [] [.code b108] (entE 0 0 sig108 (x0, ())) (entL sig108 (x0, ()))) ∧ (∀ (v3 : Int) (x0 : List TyB2) ds, R108_2 n v3 x0 ds → ∀ K q, AtV Tryz.prog 108 (PostR kds108 oks108 ds [] [] q K) 59 K q [] (cutAt b108 2) (E108_2 v3 x0) (L108_2 v3 x0)) := by
  intro n
  induction n with
  | zero => exact ⟨fun _ _ h => by simp only [R108] at h, fun _ _ _ h => by simp only [R108_2] at h⟩
  | succ n ih =>
  obtain ⟨ih, ih2⟩ := ih
  refine ⟨?_, ?_⟩
  · intro x0 ds h K q
    rw [R108] at h
    exact AtV.runN tabOk ext108Ok mixed (p108_0 x0) trivial (ih2 _ _ _ h K q)

  · intro v3 x0 ds h K q
    rw [R108_2] at h
    by_cases b0 : (decide (v3 < (↑(List.length x0) : Int))) = true
    · rw [if_pos b0] at h
      obtain ⟨s0, s1, h⟩ := h
      by_cases b1 : (!g124_0 (List.getD x0 (Int.toNat v3) (0, 0, 0, ()))) = true
      · rw [if_pos b1] at h
        subst h
        exact AtV.fin Tryz.func108 tabOk ext108Ok mixed (p108_1 v3 x0) ⟨b0, s0, s1, trivial, b1, trivial⟩
      · rw [if_neg b1] at h
        replace b1 := Bool.eq_false_iff.2 b1
        by_cases b2 : (decide (v3 > 0)) = true
        · rw [if_pos b2] at h
          obtain ⟨s2, h⟩ := h
          obtain ⟨s3, s4, h⟩ := h
          obtain ⟨s5, s6, h⟩ := h
          by_cases b3 : (decide ((List.getD x0 (Int.toNat (v3 - 1)) (0, 0, 0, ())).1 ≥ (List.getD x0 (Int.toNat v3) (0, 0, 0, ())).1)) = true
          · rw [if_pos b3] at h
            subst h
            exact AtV.fin Tryz.func108 tabOk ext108Ok mixed (p108_2 v3 x0) ⟨b0, s0, s1, trivial, b1, b2, s2, s3, s4, s5, s6, b3, rfl, rfl, trivial⟩
          · rw [if_neg b3] at h
            replace b3 := Bool.eq_false_iff.2 b3
            obtain ⟨s7, h⟩ := h
            obtain ⟨s8, s9, h⟩ := h
            obtain ⟨s10, s11, h⟩ := h
            by_cases b4 : (decide ((List.getD x0 (Int.toNat (v3 - 1)) (0, 0, 0, ())).2.1 > (List.getD x0 (Int.toNat v3) (0, 0, 0, ())).2.1)) = true
            · rw [if_pos b4] at h
              subst h
              exact AtV.fin Tryz.func108 tabOk ext108Ok mixed (p108_3 v3 x0) ⟨b0, s0, s1, trivial, b1, b2, s2, s3, s4, s5, s6, b3, s7, s8, s9, s10, s11, b4, rfl, trivial⟩
            · rw [if_neg b4] at h
              replace b4 := Bool.eq_false_iff.2 b4
              obtain ⟨s12, h⟩ := h
              obtain ⟨s13, s14, h⟩ := h
              obtain ⟨s15, s16, h⟩ := h
              by_cases b5 : (decide ((List.getD x0 (Int.toNat (v3 - 1)) (0, 0, 0, ())).2.2.1 > (List.getD x0 (Int.toNat v3) (0, 0, 0, ())).2.2.1)) = true
              · rw [if_pos b5] at h
                subst h
                exact AtV.fin Tryz.func108 tabOk ext108Ok mixed (p108_4 v3 x0) ⟨b0, s0, s1, trivial, b1, b2, s2, s3, s4, s5, s6, b3, s7, s8, s9, s10, s11, b4, s12, s13, s14, s15, s16, b5, trivial⟩
              · rw [if_neg b5] at h
                replace b5 := Bool.eq_false_iff.2 b5
                obtain ⟨s17, h⟩ := h
                exact AtV.runN tabOk ext108Ok mixed (p108_5 v3 x0) ⟨b0, s0, s1, trivial, b1, b2, s2, s3, s4, s5, s6, b3, s7, s8, s9, s10, s11, b4, s12, s13, s14, s15, s16, b5, s17, trivial⟩ (ih2 _ _ _ h K q)
        · rw [if_neg b2] at h
          replace b2 := Bool.eq_false_iff.2 b2
          obtain ⟨s2, h⟩ := h
          exact AtV.runN tabOk ext108Ok mixed (p108_6 v3 x0) ⟨b0, s0, s1, trivial, b1, b2, rfl, s2, trivial⟩ (ih2 _ _ _ h K q)
    · rw [if_neg b0] at h
      replace b0 := Bool.eq_false_iff.2 b0
      subst h
      exact AtV.fin Tryz.func108 tabOk ext108Ok mixed (p108_7 v3 x0) ⟨b0, trivial⟩



def ord108 (y x : TyB2) : Bool := decide (y.1 < x.1) && decide (y.2.1 ≤ x.2.1) && decide (y.2.2.1 ≤ x.2.2.1)
def ok108 (x0 : List TyB2) (i : Nat) (x : TyB2) : Bool := g124_0 x && (i == 0 || ord108 (x0.getD (i - 1) ((0 : Int), (0 : Int), (0 : Int), ())) x)
def g108_0 (x0 : List TyB2) : Bool := allI (ok108 x0) 0 x0
def P108 (x0 : List TyB2) : Prop := True

theorem step108 (n i : Nat) (x0 : List TyB2) (hm : x0.length ≤ maxLen) (hi : i < x0.length) (ds : List Dyn)
    (h : if ok108 x0 i (x0.getD i ((0 : Int), (0 : Int), (0 : Int), ())) = true then R108_2 n ((i : Int) + 1) x0 ds else ds = [⟨.bool, false⟩]) : R108_2 (n + 1) (i : Int) x0 ds := by
  have hu := inR_up hm hi
  have hmx : maxLen ≤ 9223372036854775807 := by decide
  rw [R108_2, if_pos (by simp; omega)]
  refine ⟨by omega, by omega, ?_⟩
  simp only [Int.toNat_natCast]
  unfold ok108 ord108 at h
  by_cases hv : g124_0 (x0.getD i ((0 : Int), (0 : Int), (0 : Int), ())) = true
  case neg => rw [Bool.eq_false_iff.2 hv] at h; rw [if_pos (by rw [Bool.eq_false_iff.2 hv]; rfl)]; simpa using h
  rw [if_neg (by rw [hv]; simp)]
  rw [hv] at h
  by_cases h0 : (i : Int) > 0
  case neg =>
    rw [if_neg (by simpa using h0)]
    have hi0 : (i == 0) = true := by simp; omega
    rw [hi0] at h
    exact ⟨hu, by simpa using h⟩
  rw [if_pos (by simpa using h0)]
  have hi0 : (i == 0) = false := by simp; omega
  have e : ((i : Int) - 1).toNat = i - 1 := by omega
  have hd : InR .i64 ((i : Int) - 1) := by rw [i64_iff]; omega
  rw [hi0] at h
  simp only [e]
  refine ⟨hd, by omega, by omega, by omega, by omega, ?_⟩
  by_cases c0 : (x0.getD (i - 1) ((0 : Int), (0 : Int), (0 : Int), ())).1 ≥ (x0.getD i ((0 : Int), (0 : Int), (0 : Int), ())).1
  case pos =>
    rw [if_pos (decide_eq_true c0)]
    have : decide ((x0.getD (i - 1) ((0 : Int), (0 : Int), (0 : Int), ())).1 < (x0.getD i ((0 : Int), (0 : Int), (0 : Int), ())).1) = false := decide_eq_false (by omega)
    rw [this] at h
    simpa using h
  rw [if_neg (by simpa using c0)]
  refine ⟨hd, by omega, by omega, by omega, by omega, ?_⟩
  by_cases c1 : (x0.getD (i - 1) ((0 : Int), (0 : Int), (0 : Int), ())).2.1 > (x0.getD i ((0 : Int), (0 : Int), (0 : Int), ())).2.1
  case pos =>
    rw [if_pos (decide_eq_true c1)]
    have : decide ((x0.getD (i - 1) ((0 : Int), (0 : Int), (0 : Int), ())).2.1 ≤ (x0.getD i ((0 : Int), (0 : Int), (0 : Int), ())).2.1) = false := decide_eq_false (by omega)
    rw [this] at h
    simpa using h
  rw [if_neg (by simpa using c1)]
  refine ⟨hd, by omega, by omega, by omega, by omega, ?_⟩
  by_cases c2 : (x0.getD (i - 1) ((0 : Int), (0 : Int), (0 : Int), ())).2.2.1 > (x0.getD i ((0 : Int), (0 : Int), (0 : Int), ())).2.2.1
  case pos =>
    rw [if_pos (decide_eq_true c2)]
    have : decide ((x0.getD (i - 1) ((0 : Int), (0 : Int), (0 : Int), ())).2.2.1 ≤ (x0.getD i ((0 : Int), (0 : Int), (0 : Int), ())).2.2.1) = false := decide_eq_false (by omega)
    rw [this] at h
    simpa using h
  rw [if_neg (by simpa using c2)]
  have d0 : decide ((x0.getD (i - 1) ((0 : Int), (0 : Int), (0 : Int), ())).1 < (x0.getD i ((0 : Int), (0 : Int), (0 : Int), ())).1) = true := decide_eq_true (by omega)
  have d1 : decide ((x0.getD (i - 1) ((0 : Int), (0 : Int), (0 : Int), ())).2.1 ≤ (x0.getD i ((0 : Int), (0 : Int), (0 : Int), ())).2.1) = true := decide_eq_true (by omega)
  have d2 : decide ((x0.getD (i - 1) ((0 : Int), (0 : Int), (0 : Int), ())).2.2.1 ≤ (x0.getD i ((0 : Int), (0 : Int), (0 : Int), ())).2.2.1) = true := decide_eq_true (by omega)
  rw [d0, d1, d2] at h
  exact ⟨hu, by simpa using h⟩

theorem top108 (x0 : List TyB2) (hw : x0.length ≤ maxLen) : R108 (x0.length + 1 + 1) x0 [⟨.bool, g108_0 x0⟩] := by
  rw [R108]
  have key := loop_testI x0 ((0 : Int), (0 : Int), (0 : Int), ()) (ok108 x0) [(⟨.bool, false⟩ : Dyn)] [⟨.bool, true⟩] (fun n i ds => R108_2 n i x0 ds) (fun n => ?_) (fun n i hi hok ds hr => ?_) (fun n i hi hok => ?_)
  · unfold g108_0
    cases h : allI (ok108 x0) 0 x0 with
    | true => rw [if_pos h] at key; simpa using key
    | false => rw [if_neg (by rw [h]; simp)] at key; simpa using key
  · rw [R108_2, if_neg (by simp)]
  · exact step108 n i x0 hw hi ds (by rw [if_pos hok]; exact hr)
  · exact step108 n i x0 hw hi _ (by rw [if_neg (by rw [hok]; simp)])

def S108 : Am.Spec := { sig := sig108, pre := fun ⟨x0, _⟩ => P108 x0, res := fun ⟨x0, _⟩ => [⟨Ty.bool, g108_0 x0⟩] }
theorem con108 : Contract Tryz.prog 108 S108 := contract_of Tryz.func108 hb108 (Nat.le_of_ble_eq_true (by kernel_rfl)) (fun ⟨x0, _⟩ h hwf K q =>
  (snd108 _).1 x0 _ (top108 x0 hwf.1.1) K q)

end
end Go.Proofs.YtcakiedjgnhjcaaGreat

/- Function 68 (spec.l22Tests): its runs between cut points. Written by a program of this repo (gen). -/
set_option linter.unusedVariables false
set_option linter.unusedSimpArgs false
set_option maxRecDepth 100000
namespace Go.Proofs.YtcakiedjgnhjcaaGreat
open Go Go.Am Go.Proofs
noncomputable section
def ext68 : Ext := [(108, S108)]
theorem call68_108 : Callable Tryz.prog 108 := ⟨Tryz.f108, Tryz.func108, by kernel_rfl, by kernel_rfl⟩
theorem ext68Ok : ExtOk Tryz.prog ext68 := ⟨⟨call68_108, con108⟩, trivial⟩

noncomputable def b68 : Code := bodyOf Tryz.f68
theorem hb68 : Tryz.f68.body = some b68 := by kernel_rfl
def sig68 : List AT := [AT.v (Ty.sl (Ty.cons (Ty.int .i64) (Ty.cons (Ty.int .i64) (Ty.cons (Ty.int .i64) Ty.unit))))]
def tys68 : List Ty := [Ty.bool]
def kds68 : List RK := []
def oks68 : List AT := owns sig68
def P68 (x0 : List TyB2) : Prop := True
def g68_0 (x0 : List TyB2) : Bool := (if (decide ((↑(List.length x0) : Int) ≤ 24)) = true then g108_0 x0 else false)
theorem p68_0 (x0 : List TyB2) : runF tab ext68 false 10 [] 2000 [] oks68 kds68 tys68 Tryz.f68.results [true] [.code b68] (entE 0 0 sig68 (x0, ())) (entL sig68 (x0, ())) = some ([Dyn.mk Ty.bool (g108_0 x0)], [], [decide ((↑(List.length x0) : Int) ≤ 24) = true, True]) := by kernel_rfl
theorem p68_1 (x0 : List TyB2) : runF tab ext68 false 10 [] 2000 [] oks68 kds68 tys68 Tryz.f68.results [false] [.code b68] (entE 0 0 sig68 (x0, ())) (entL sig68 (x0, ())) = some ([Dyn.mk Ty.bool false], [], [decide ((↑(List.length x0) : Int) ≤ 24) = false]) := by kernel_rfl
theorem at68 (x0 : List TyB2) (h : P68 x0) (K : Ctx) (q : Nat → Value) : AtV Tryz.prog 68 (PostR kds68 oks68 [⟨Ty.bool, g68_0 x0⟩] [] [] q K) 10 K q [] [.code b68] (entE 0 0 sig68 (x0, ())) (entL sig68 (x0, ())) := by
  unfold P68 at h
  unfold g68_0
  by_cases b0 : (decide ((↑(List.length x0) : Int) ≤ 24)) = true
  · try simp only [if_pos b0] at h ⊢
    exact AtV.fin Tryz.func68 tabOk ext68Ok mixed (p68_0 x0) ⟨b0, trivial, trivial⟩
  · try simp only [if_neg b0] at h ⊢
    replace b0 := Bool.eq_false_iff.2 b0
    exact AtV.fin Tryz.func68 tabOk ext68Ok mixed (p68_1 x0) ⟨b0, trivial⟩

def S68 : Am.Spec := { sig := sig68, pre := fun ⟨x0, _⟩ => P68 x0, res := fun ⟨x0, _⟩ => [⟨Ty.bool, g68_0 x0⟩], kds := kds68 }
theorem con68 : Contract Tryz.prog 68 S68 := contract_of Tryz.func68 hb68 (Nat.le_of_ble_eq_true (by kernel_rfl)) (fun ⟨x0, _⟩ h _ K q => at68 x0 h K q)


end
end Go.Proofs.YtcakiedjgnhjcaaGreat

/- Function 125 (spec.l24Skills): its runs between cut points. Written by a program of this repo (gen). -/
set_option linter.unusedVariables false
set_option linter.unusedSimpArgs false
set_option maxRecDepth 100000
namespace Go.Proofs.YtcakiedjgnhjcaaGreat
open Go Go.Am Go.Proofs
noncomputable section
def ext125 : Ext := [(103, S103)]
theorem call125_103 : Callable Tryz.prog 103 := ⟨Tryz.f103, Tryz.func103, by kernel_rfl, by kernel_rfl⟩
theorem ext125Ok : ExtOk Tryz.prog ext125 := ⟨⟨call125_103, con103⟩, trivial⟩

noncomputable def b125 : Code := bodyOf Tryz.f125
theorem hb125 : Tryz.f125.body = some b125 := by kernel_rfl
def sig125 : List AT := [AT.v (Ty.int .i64)]
def tys125 : List Ty := [Ty.bool]
def kds125 : List RK := []
def oks125 : List AT := owns sig125
def P125 (x0 : Int) : Prop := True
def g125_0 (x0 : Int) : Bool := g103_0 x0 0 7
theorem p125_0 (x0 : Int) : runF tab ext125 false 5 [] 2000 [] oks125 kds125 tys125 Tryz.f125.results [] [.code b125] (entE 0 0 sig125 (x0, ())) (entL sig125 (x0, ())) = some ([Dyn.mk Ty.bool (g103_0 x0 0 7)], [], [True]) := by kernel_rfl
theorem at125 (x0 : Int) (h : P125 x0) (K : Ctx) (q : Nat → Value) : AtV Tryz.prog 125 (PostR kds125 oks125 [⟨Ty.bool, g125_0 x0⟩] [] [] q K) 5 K q [] [.code b125] (entE 0 0 sig125 (x0, ())) (entL sig125 (x0, ())) := by
  unfold P125 at h
  unfold g125_0
  exact AtV.fin Tryz.func125 tabOk ext125Ok mixed (p125_0 x0) ⟨trivial, trivial⟩

def S125 : Am.Spec := { sig := sig125, pre := fun ⟨x0, _⟩ => P125 x0, res := fun ⟨x0, _⟩ => [⟨Ty.bool, g125_0 x0⟩], kds := kds125 }
theorem con125 : Contract Tryz.prog 125 S125 := contract_of Tryz.func125 hb125 (Nat.le_of_ble_eq_true (by kernel_rfl)) (fun ⟨x0, _⟩ h _ K q => at125 x0 h K q)


end
end Go.Proofs.YtcakiedjgnhjcaaGreat

/- Function 126 (spec.l24Minutes): its runs between cut points. Written by a program of this repo (gen). -/
set_option linter.unusedVariables false
set_option linter.unusedSimpArgs false
set_option maxRecDepth 100000
namespace Go.Proofs.YtcakiedjgnhjcaaGreat
open Go Go.Am Go.Proofs
noncomputable section
def ext126 : Ext := [(103, S103)]
theorem call126_103 : Callable Tryz.prog 103 := ⟨Tryz.f103, Tryz.func103, by kernel_rfl, by kernel_rfl⟩
theorem ext126Ok : ExtOk Tryz.prog ext126 := ⟨⟨call126_103, con103⟩, trivial⟩

noncomputable def b126 : Code := bodyOf Tryz.f126
theorem hb126 : Tryz.f126.body = some b126 := by kernel_rfl
def sig126 : List AT := [AT.v (Ty.int .i64)]
def tys126 : List Ty := [Ty.bool]
def kds126 : List RK := []
def oks126 : List AT := owns sig126
def P126 (x0 : Int) : Prop := True
def g126_0 (x0 : Int) : Bool := g103_0 x0 0 1000
theorem p126_0 (x0 : Int) : runF tab ext126 false 5 [] 2000 [] oks126 kds126 tys126 Tryz.f126.results [] [.code b126] (entE 0 0 sig126 (x0, ())) (entL sig126 (x0, ())) = some ([Dyn.mk Ty.bool (g103_0 x0 0 1000)], [], [True]) := by kernel_rfl
theorem at126 (x0 : Int) (h : P126 x0) (K : Ctx) (q : Nat → Value) : AtV Tryz.prog 126 (PostR kds126 oks126 [⟨Ty.bool, g126_0 x0⟩] [] [] q K) 5 K q [] [.code b126] (entE 0 0 sig126 (x0, ())) (entL sig126 (x0, ())) := by
  unfold P126 at h
  unfold g126_0
  exact AtV.fin Tryz.func126 tabOk ext126Ok mixed (p126_0 x0) ⟨trivial, trivial⟩

def S126 : Am.Spec := { sig := sig126, pre := fun ⟨x0, _⟩ => P126 x0, res := fun ⟨x0, _⟩ => [⟨Ty.bool, g126_0 x0⟩], kds := kds126 }
theorem con126 : Contract Tryz.prog 126 S126 := contract_of Tryz.func126 hb126 (Nat.le_of_ble_eq_true (by kernel_rfl)) (fun ⟨x0, _⟩ h _ K q => at126 x0 h K q)


end
end Go.Proofs.YtcakiedjgnhjcaaGreat

/- Function 109 (spec.l24Helper): its runs between cut points. Written by a program of this repo (gen). -/
set_option linter.unusedVariables false
set_option linter.unusedSimpArgs false
set_option maxRecDepth 100000
namespace Go.Proofs.YtcakiedjgnhjcaaGreat
open Go Go.Am Go.Proofs
noncomputable section
def ext109 : Ext := [(121, S121), (125, S125), (126, S126)]
theorem call109_121 : Callable Tryz.prog 121 := ⟨Tryz.f121, Tryz.func121, by kernel_rfl, by kernel_rfl⟩
theorem call109_125 : Callable Tryz.prog 125 := ⟨Tryz.f125, Tryz.func125, by kernel_rfl, by kernel_rfl⟩
theorem call109_126 : Callable Tryz.prog 126 := ⟨Tryz.f126, Tryz.func126, by kernel_rfl, by kernel_rfl⟩
theorem ext109Ok : ExtOk Tryz.prog ext109 := ⟨⟨call109_121, con121⟩, ⟨call109_125, con125⟩, ⟨call109_126, con126⟩, trivial⟩

noncomputable def b109 : Code := bodyOf Tryz.f109
theorem hb109 : Tryz.f109.body = some b109 := by kernel_rfl
def sig109 : List AT := [AT.p (Ty.cons Ty.str (Ty.cons (Ty.int .i64) (Ty.cons (Ty.int .i64) Ty.unit)))]
def tys109 : List Ty := [Ty.bool]
def kds109 : List RK := []
def oks109 : List AT := owns sig109
def P109 (x0 : ByteArray × Int × Int × Unit) : Prop := True
def g109_0 (x0 : ByteArray × Int × Int × Unit) : Bool := (if (g121_0 x0.1) = true then (if (g125_0 x0.2.1) = true then g126_0 x0.2.2.1 else false) else false)
theorem p109_0 (x0 : ByteArray × Int × Int × Unit) : runF tab ext109 false 22 [] 2000 [] oks109 kds109 tys109 Tryz.f109.results [true, true] [.code b109] (entE 0 0 sig109 (x0, ())) (entL sig109 (x0, ())) = some ([Dyn.mk Ty.bool (g126_0 x0.2.2.1)], [], [True, g121_0 x0.1 = true, True, g125_0 x0.2.1 = true, True]) := by kernel_rfl
theorem p109_1 (x0 : ByteArray × Int × Int × Unit) : runF tab ext109 false 22 [] 2000 [] oks109 kds109 tys109 Tryz.f109.results [true, false] [.code b109] (entE 0 0 sig109 (x0, ())) (entL sig109 (x0, ())) = some ([Dyn.mk Ty.bool false], [], [True, g121_0 x0.1 = true, True, g125_0 x0.2.1 = false]) := by kernel_rfl
theorem p109_2 (x0 : ByteArray × Int × Int × Unit) : runF tab ext109 false 22 [] 2000 [] oks109 kds109 tys109 Tryz.f109.results [false, false] [.code b109] (entE 0 0 sig109 (x0, ())) (entL sig109 (x0, ())) = some ([Dyn.mk Ty.bool false], [], [True, g121_0 x0.1 = false, false = false]) := by kernel_rfl
theorem at109 (x0 : ByteArray × Int × Int × Unit) (h : P109 x0) (K : Ctx) (q : Nat → Value) : AtV Tryz.prog 109 (PostR kds109 oks109 [⟨Ty.bool, g109_0 x0⟩] [] [] q K) 22 K q [] [.code b109] (entE 0 0 sig109 (x0, ())) (entL sig109 (x0, ())) := by
  unfold P109 at h
  unfold g109_0
  by_cases b0 : (g121_0 x0.1) = true
  · try simp only [if_pos b0] at h ⊢
    by_cases b1 : (g125_0 x0.2.1) = true
    · try simp only [if_pos b1] at h ⊢
      exact AtV.fin Tryz.func109 tabOk ext109Ok mixed (p109_0 x0) ⟨trivial, b0, trivial, b1, trivial, trivial⟩
    · try simp only [if_neg b1] at h ⊢
      replace b1 := Bool.eq_false_iff.2 b1
      exact AtV.fin Tryz.func109 tabOk ext109Ok mixed (p109_1 x0) ⟨trivial, b0, trivial, b1, trivial⟩
  · try simp only [if_neg b0] at h ⊢
    replace b0 := Bool.eq_false_iff.2 b0
    exact AtV.fin Tryz.func109 tabOk ext109Ok mixed (p109_2 x0) ⟨trivial, b0, rfl, trivial⟩

def S109 : Am.Spec := { sig := sig109, pre := fun ⟨x0, _⟩ => P109 x0, res := fun ⟨x0, _⟩ => [⟨Ty.bool, g109_0 x0⟩], kds := kds109 }
theorem con109 : Contract Tryz.prog 109 S109 := contract_of Tryz.func109 hb109 (Nat.le_of_ble_eq_true (by kernel_rfl)) (fun ⟨x0, _⟩ h _ K q => at109 x0 h K q)


end
end Go.Proofs.YtcakiedjgnhjcaaGreat
