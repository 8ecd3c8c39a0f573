/- Several texts in one: the functions that this law reaches, and their laws. -/
import Derived.Test.YtpcfcplggpchjaaZ3A
import Derived.Test.YtpcfcplggpchjaaZ3B
import Derived.Test.YtpcfcplggpchjaaZ3C
import Derived.Test.YtpcfcplggpchjaaZ3D

/- Function 4 (laws.szDesk): its runs between cut points. Written by a program of this repo (gen). -/
set_option linter.unusedVariables false
set_option linter.unusedSimpArgs false
set_option maxRecDepth 100000
namespace Go.Proofs.Ytpcfcplggpchjaa
open Go Go.Am Go.Proofs
def ext4 : Ext := [(9, S9), (10, S10), (11, S11), (12, S12), (13, S13), (14, S14), (15, S15), (16, S16)]
theorem call4_9 : Callable Try.prog 9 := ⟨Try.f9, Try.func9, by kernel_rfl, by kernel_rfl⟩
theorem call4_10 : Callable Try.prog 10 := ⟨Try.f10, Try.func10, by kernel_rfl, by kernel_rfl⟩
theorem call4_11 : Callable Try.prog 11 := ⟨Try.f11, Try.func11, by kernel_rfl, by kernel_rfl⟩
theorem call4_12 : Callable Try.prog 12 := ⟨Try.f12, Try.func12, by kernel_rfl, by kernel_rfl⟩
theorem call4_13 : Callable Try.prog 13 := ⟨Try.f13, Try.func13, by kernel_rfl, by kernel_rfl⟩
theorem call4_14 : Callable Try.prog 14 := ⟨Try.f14, Try.func14, by kernel_rfl, by kernel_rfl⟩
theorem call4_15 : Callable Try.prog 15 := ⟨Try.f15, Try.func15, by kernel_rfl, by kernel_rfl⟩
theorem call4_16 : Callable Try.prog 16 := ⟨Try.f16, Try.func16, by kernel_rfl, by kernel_rfl⟩
theorem ext4Ok : ExtOk Try.prog ext4 := ⟨⟨call4_9, con9⟩, ⟨call4_10, con10⟩, ⟨call4_11, con11⟩, ⟨call4_12, con12⟩, ⟨call4_13, con13⟩, ⟨call4_14, con14⟩, ⟨call4_15, con15⟩, ⟨call4_16, con16⟩, trivial⟩

noncomputable def b4 : Code := bodyOf Try.f4
theorem hb4 : Try.f4.body = some b4 := by kernel_rfl
def sig4 : List AT := [AT.v (Ty.cons (Ty.sl (Ty.cons Ty.str (Ty.cons (Ty.int IntKind.i64) (Ty.cons (Ty.int IntKind.i64) (Ty.cons (Ty.int IntKind.i64) Ty.unit))))) (Ty.cons (Ty.cons (Ty.int IntKind.i64) (Ty.cons (Ty.int IntKind.i64) (Ty.cons (Ty.int IntKind.i64) (Ty.cons (Ty.int IntKind.i64) Ty.unit)))) (Ty.cons (Ty.sl (Ty.cons (Ty.int IntKind.i64) (Ty.cons (Ty.int IntKind.i64) (Ty.cons (Ty.int IntKind.i64) Ty.unit)))) (Ty.cons (Ty.sl (Ty.cons (Ty.int IntKind.i64) (Ty.cons (Ty.int IntKind.i64) (Ty.cons (Ty.int IntKind.i64) Ty.unit)))) (Ty.cons (Ty.cons (Ty.int IntKind.i64) (Ty.cons (Ty.int IntKind.i64) (Ty.cons (Ty.int IntKind.i64) Ty.unit))) (Ty.cons (Ty.cons (Ty.int IntKind.i64) (Ty.cons (Ty.int IntKind.i64) (Ty.cons (Ty.int IntKind.i64) Ty.unit))) (Ty.cons (Ty.sl (Ty.cons Ty.str (Ty.cons (Ty.int IntKind.i64) (Ty.cons (Ty.int IntKind.i64) Ty.unit)))) (Ty.cons (Ty.cons (Ty.int IntKind.i64) (Ty.cons (Ty.int IntKind.i64) (Ty.cons (Ty.int IntKind.i64) (Ty.cons (Ty.int IntKind.i64) Ty.unit)))) (Ty.cons (Ty.sl (Ty.cons Ty.str (Ty.cons (Ty.int IntKind.i64) (Ty.cons (Ty.int IntKind.i64) (Ty.cons (Ty.int IntKind.i64) Ty.unit))))) (Ty.cons (Ty.sl (Ty.cons (Ty.int IntKind.i64) (Ty.cons (Ty.int IntKind.i64) (Ty.cons (Ty.int IntKind.i64) Ty.unit)))) (Ty.cons (Ty.sl (Ty.cons Ty.str (Ty.cons (Ty.int IntKind.i64) (Ty.cons (Ty.int IntKind.i64) Ty.unit)))) (Ty.cons (Ty.sl (Ty.cons Ty.str (Ty.cons (Ty.int IntKind.i64) (Ty.cons (Ty.int IntKind.i64) Ty.unit)))) Ty.unit)))))))))))), AT.v (Ty.int IntKind.i64)]
def tys4 : List Ty := [Ty.int IntKind.i64]
def kds4 : List RK := []
def oks4 : List AT := owns sig4
def P4 (x0 : TyA0) (x1 : Int) : Prop := ((P9 (Prod.fst x0) x1) ∧ (if (Decidable.decide (g9_0 (Prod.fst x0) x1 < 0)) = true then True else ((P10 (Prod.fst (Prod.snd (Prod.snd x0))) (g9_0 (Prod.fst x0) x1)) ∧ (if (Decidable.decide (g10_0 (Prod.fst (Prod.snd (Prod.snd x0))) (g9_0 (Prod.fst x0) x1) < 0)) = true then True else ((P11 (Prod.fst (Prod.snd (Prod.snd (Prod.snd x0)))) (g10_0 (Prod.fst (Prod.snd (Prod.snd x0))) (g9_0 (Prod.fst x0) x1))) ∧ (if (Decidable.decide (g11_0 (Prod.fst (Prod.snd (Prod.snd (Prod.snd x0)))) (g10_0 (Prod.fst (Prod.snd (Prod.snd x0))) (g9_0 (Prod.fst x0) x1)) < 0)) = true then True else ((P12 (Prod.fst (Prod.snd (Prod.snd (Prod.snd (Prod.snd (Prod.snd (Prod.snd x0))))))) (g11_0 (Prod.fst (Prod.snd (Prod.snd (Prod.snd x0)))) (g10_0 (Prod.fst (Prod.snd (Prod.snd x0))) (g9_0 (Prod.fst x0) x1)))) ∧ (if (Decidable.decide (g12_0 (Prod.fst (Prod.snd (Prod.snd (Prod.snd (Prod.snd (Prod.snd (Prod.snd x0))))))) (g11_0 (Prod.fst (Prod.snd (Prod.snd (Prod.snd x0)))) (g10_0 (Prod.fst (Prod.snd (Prod.snd x0))) (g9_0 (Prod.fst x0) x1))) < 0)) = true then True else ((P13 (Prod.fst (Prod.snd (Prod.snd (Prod.snd (Prod.snd (Prod.snd (Prod.snd (Prod.snd (Prod.snd x0))))))))) (g12_0 (Prod.fst (Prod.snd (Prod.snd (Prod.snd (Prod.snd (Prod.snd (Prod.snd x0))))))) (g11_0 (Prod.fst (Prod.snd (Prod.snd (Prod.snd x0)))) (g10_0 (Prod.fst (Prod.snd (Prod.snd x0))) (g9_0 (Prod.fst x0) x1))))) ∧ (if (Decidable.decide (g13_0 (Prod.fst (Prod.snd (Prod.snd (Prod.snd (Prod.snd (Prod.snd (Prod.snd (Prod.snd (Prod.snd x0))))))))) (g12_0 (Prod.fst (Prod.snd (Prod.snd (Prod.snd (Prod.snd (Prod.snd (Prod.snd x0))))))) (g11_0 (Prod.fst (Prod.snd (Prod.snd (Prod.snd x0)))) (g10_0 (Prod.fst (Prod.snd (Prod.snd x0))) (g9_0 (Prod.fst x0) x1)))) < 0)) = true then True else ((P14 (Prod.fst (Prod.snd (Prod.snd (Prod.snd (Prod.snd (Prod.snd (Prod.snd (Prod.snd (Prod.snd (Prod.snd x0)))))))))) (g13_0 (Prod.fst (Prod.snd (Prod.snd (Prod.snd (Prod.snd (Prod.snd (Prod.snd (Prod.snd (Prod.snd x0))))))))) (g12_0 (Prod.fst (Prod.snd (Prod.snd (Prod.snd (Prod.snd (Prod.snd (Prod.snd x0))))))) (g11_0 (Prod.fst (Prod.snd (Prod.snd (Prod.snd x0)))) (g10_0 (Prod.fst (Prod.snd (Prod.snd x0))) (g9_0 (Prod.fst x0) x1)))))) ∧ (if (Decidable.decide (g14_0 (Prod.fst (Prod.snd (Prod.snd (Prod.snd (Prod.snd (Prod.snd (Prod.snd (Prod.snd (Prod.snd (Prod.snd x0)))))))))) (g13_0 (Prod.fst (Prod.snd (Prod.snd (Prod.snd (Prod.snd (Prod.snd (Prod.snd (Prod.snd (Prod.snd x0))))))))) (g12_0 (Prod.fst (Prod.snd (Prod.snd (Prod.snd (Prod.snd (Prod.snd (Prod.snd x0))))))) (g11_0 (Prod.fst (Prod.snd (Prod.snd (Prod.snd x0)))) (g10_0 (Prod.fst (Prod.snd (Prod.snd x0))) (g9_0 (Prod.fst x0) x1))))) < 0)) = true then True else ((P15 (Prod.fst (Prod.snd (Prod.snd (Prod.snd (Prod.snd (Prod.snd (Prod.snd (Prod.snd (Prod.snd (Prod.snd (Prod.snd x0))))))))))) (g14_0 (Prod.fst (Prod.snd (Prod.snd (Prod.snd (Prod.snd (Prod.snd (Prod.snd (Prod.snd (Prod.snd (Prod.snd x0)))))))))) (g13_0 (Prod.fst (Prod.snd (Prod.snd (Prod.snd (Prod.snd (Prod.snd (Prod.snd (Prod.snd (Prod.snd x0))))))))) (g12_0 (Prod.fst (Prod.snd (Prod.snd (Prod.snd (Prod.snd (Prod.snd (Prod.snd x0))))))) (g11_0 (Prod.fst (Prod.snd (Prod.snd (Prod.snd x0)))) (g10_0 (Prod.fst (Prod.snd (Prod.snd x0))) (g9_0 (Prod.fst x0) x1))))))) ∧ (if (Decidable.decide (g15_0 (Prod.fst (Prod.snd (Prod.snd (Prod.snd (Prod.snd (Prod.snd (Prod.snd (Prod.snd (Prod.snd (Prod.snd (Prod.snd x0))))))))))) (g14_0 (Prod.fst (Prod.snd (Prod.snd (Prod.snd (Prod.snd (Prod.snd (Prod.snd (Prod.snd (Prod.snd (Prod.snd x0)))))))))) (g13_0 (Prod.fst (Prod.snd (Prod.snd (Prod.snd (Prod.snd (Prod.snd (Prod.snd (Prod.snd (Prod.snd x0))))))))) (g12_0 (Prod.fst (Prod.snd (Prod.snd (Prod.snd (Prod.snd (Prod.snd (Prod.snd x0))))))) (g11_0 (Prod.fst (Prod.snd (Prod.snd (Prod.snd x0)))) (g10_0 (Prod.fst (Prod.snd (Prod.snd x0))) (g9_0 (Prod.fst x0) x1)))))) < 0)) = true then True else ((P16 (Prod.fst (Prod.snd (Prod.snd (Prod.snd (Prod.snd (Prod.snd (Prod.snd (Prod.snd (Prod.snd (Prod.snd (Prod.snd (Prod.snd x0)))))))))))) (g15_0 (Prod.fst (Prod.snd (Prod.snd (Prod.snd (Prod.snd (Prod.snd (Prod.snd (Prod.snd (Prod.snd (Prod.snd (Prod.snd x0))))))))))) (g14_0 (Prod.fst (Prod.snd (Prod.snd (Prod.snd (Prod.snd (Prod.snd (Prod.snd (Prod.snd (Prod.snd (Prod.snd x0)))))))))) (g13_0 (Prod.fst (Prod.snd (Prod.snd (Prod.snd (Prod.snd (Prod.snd (Prod.snd (Prod.snd (Prod.snd x0))))))))) (g12_0 (Prod.fst (Prod.snd (Prod.snd (Prod.snd (Prod.snd (Prod.snd (Prod.snd x0))))))) (g11_0 (Prod.fst (Prod.snd (Prod.snd (Prod.snd x0)))) (g10_0 (Prod.fst (Prod.snd (Prod.snd x0))) (g9_0 (Prod.fst x0) x1)))))))) ∧ True)))))))))))))))
def g4_0 (x0 : TyA0) (x1 : Int) : Int := (if (Decidable.decide (g9_0 (Prod.fst x0) x1 < 0)) = true then -1 else (if (Decidable.decide (g10_0 (Prod.fst (Prod.snd (Prod.snd x0))) (g9_0 (Prod.fst x0) x1) < 0)) = true then -1 else (if (Decidable.decide (g11_0 (Prod.fst (Prod.snd (Prod.snd (Prod.snd x0)))) (g10_0 (Prod.fst (Prod.snd (Prod.snd x0))) (g9_0 (Prod.fst x0) x1)) < 0)) = true then -1 else (if (Decidable.decide (g12_0 (Prod.fst (Prod.snd (Prod.snd (Prod.snd (Prod.snd (Prod.snd (Prod.snd x0))))))) (g11_0 (Prod.fst (Prod.snd (Prod.snd (Prod.snd x0)))) (g10_0 (Prod.fst (Prod.snd (Prod.snd x0))) (g9_0 (Prod.fst x0) x1))) < 0)) = true then -1 else (if (Decidable.decide (g13_0 (Prod.fst (Prod.snd (Prod.snd (Prod.snd (Prod.snd (Prod.snd (Prod.snd (Prod.snd (Prod.snd x0))))))))) (g12_0 (Prod.fst (Prod.snd (Prod.snd (Prod.snd (Prod.snd (Prod.snd (Prod.snd x0))))))) (g11_0 (Prod.fst (Prod.snd (Prod.snd (Prod.snd x0)))) (g10_0 (Prod.fst (Prod.snd (Prod.snd x0))) (g9_0 (Prod.fst x0) x1)))) < 0)) = true then -1 else (if (Decidable.decide (g14_0 (Prod.fst (Prod.snd (Prod.snd (Prod.snd (Prod.snd (Prod.snd (Prod.snd (Prod.snd (Prod.snd (Prod.snd x0)))))))))) (g13_0 (Prod.fst (Prod.snd (Prod.snd (Prod.snd (Prod.snd (Prod.snd (Prod.snd (Prod.snd (Prod.snd x0))))))))) (g12_0 (Prod.fst (Prod.snd (Prod.snd (Prod.snd (Prod.snd (Prod.snd (Prod.snd x0))))))) (g11_0 (Prod.fst (Prod.snd (Prod.snd (Prod.snd x0)))) (g10_0 (Prod.fst (Prod.snd (Prod.snd x0))) (g9_0 (Prod.fst x0) x1))))) < 0)) = true then -1 else (if (Decidable.decide (g15_0 (Prod.fst (Prod.snd (Prod.snd (Prod.snd (Prod.snd (Prod.snd (Prod.snd (Prod.snd (Prod.snd (Prod.snd (Prod.snd x0))))))))))) (g14_0 (Prod.fst (Prod.snd (Prod.snd (Prod.snd (Prod.snd (Prod.snd (Prod.snd (Prod.snd (Prod.snd (Prod.snd x0)))))))))) (g13_0 (Prod.fst (Prod.snd (Prod.snd (Prod.snd (Prod.snd (Prod.snd (Prod.snd (Prod.snd (Prod.snd x0))))))))) (g12_0 (Prod.fst (Prod.snd (Prod.snd (Prod.snd (Prod.snd (Prod.snd (Prod.snd x0))))))) (g11_0 (Prod.fst (Prod.snd (Prod.snd (Prod.snd x0)))) (g10_0 (Prod.fst (Prod.snd (Prod.snd x0))) (g9_0 (Prod.fst x0) x1)))))) < 0)) = true then -1 else (if (Decidable.decide (g16_0 (Prod.fst (Prod.snd (Prod.snd (Prod.snd (Prod.snd (Prod.snd (Prod.snd (Prod.snd (Prod.snd (Prod.snd (Prod.snd (Prod.snd x0)))))))))))) (g15_0 (Prod.fst (Prod.snd (Prod.snd (Prod.snd (Prod.snd (Prod.snd (Prod.snd (Prod.snd (Prod.snd (Prod.snd (Prod.snd x0))))))))))) (g14_0 (Prod.fst (Prod.snd (Prod.snd (Prod.snd (Prod.snd (Prod.snd (Prod.snd (Prod.snd (Prod.snd (Prod.snd x0)))))))))) (g13_0 (Prod.fst (Prod.snd (Prod.snd (Prod.snd (Prod.snd (Prod.snd (Prod.snd (Prod.snd (Prod.snd x0))))))))) (g12_0 (Prod.fst (Prod.snd (Prod.snd (Prod.snd (Prod.snd (Prod.snd (Prod.snd x0))))))) (g11_0 (Prod.fst (Prod.snd (Prod.snd (Prod.snd x0)))) (g10_0 (Prod.fst (Prod.snd (Prod.snd x0))) (g9_0 (Prod.fst x0) x1))))))) < 0)) = true then -1 else g16_0 (Prod.fst (Prod.snd (Prod.snd (Prod.snd (Prod.snd (Prod.snd (Prod.snd (Prod.snd (Prod.snd (Prod.snd (Prod.snd (Prod.snd x0)))))))))))) (g15_0 (Prod.fst (Prod.snd (Prod.snd (Prod.snd (Prod.snd (Prod.snd (Prod.snd (Prod.snd (Prod.snd (Prod.snd (Prod.snd x0))))))))))) (g14_0 (Prod.fst (Prod.snd (Prod.snd (Prod.snd (Prod.snd (Prod.snd (Prod.snd (Prod.snd (Prod.snd (Prod.snd x0)))))))))) (g13_0 (Prod.fst (Prod.snd (Prod.snd (Prod.snd (Prod.snd (Prod.snd (Prod.snd (Prod.snd (Prod.snd x0))))))))) (g12_0 (Prod.fst (Prod.snd (Prod.snd (Prod.snd (Prod.snd (Prod.snd (Prod.snd x0))))))) (g11_0 (Prod.fst (Prod.snd (Prod.snd (Prod.snd x0)))) (g10_0 (Prod.fst (Prod.snd (Prod.snd x0))) (g9_0 (Prod.fst x0) x1)))))))))))))))
theorem p4_0 (x0 : TyA0) (x1 : Int) : runF tab ext4 false 54 [] 2000 [] oks4 kds4 tys4 Try.f4.results [true] [.code b4] (entE 0 0 sig4 (x0, x1, ())) (entL sig4 (x0, x1, ())) = some ([Dyn.mk (Ty.int IntKind.i64) (-1)], [], [P9 (Prod.fst x0) x1, Decidable.decide (g9_0 (Prod.fst x0) x1 < 0) = Bool.true]) := by kernel_rfl
theorem p4_1 (x0 : TyA0) (x1 : Int) : runF tab ext4 false 54 [] 2000 [] oks4 kds4 tys4 Try.f4.results [false, true] [.code b4] (entE 0 0 sig4 (x0, x1, ())) (entL sig4 (x0, x1, ())) = some ([Dyn.mk (Ty.int IntKind.i64) (-1)], [], [P9 (Prod.fst x0) x1, Decidable.decide (g9_0 (Prod.fst x0) x1 < 0) = Bool.false, P10 (Prod.fst (Prod.snd (Prod.snd x0))) (g9_0 (Prod.fst x0) x1), Decidable.decide (g10_0 (Prod.fst (Prod.snd (Prod.snd x0))) (g9_0 (Prod.fst x0) x1) < 0) = Bool.true]) := by kernel_rfl
theorem p4_2 (x0 : TyA0) (x1 : Int) : runF tab ext4 false 54 [] 2000 [] oks4 kds4 tys4 Try.f4.results [false, false, true] [.code b4] (entE 0 0 sig4 (x0, x1, ())) (entL sig4 (x0, x1, ())) = some ([Dyn.mk (Ty.int IntKind.i64) (-1)], [], [P9 (Prod.fst x0) x1, Decidable.decide (g9_0 (Prod.fst x0) x1 < 0) = Bool.false, P10 (Prod.fst (Prod.snd (Prod.snd x0))) (g9_0 (Prod.fst x0) x1), Decidable.decide (g10_0 (Prod.fst (Prod.snd (Prod.snd x0))) (g9_0 (Prod.fst x0) x1) < 0) = Bool.false, P11 (Prod.fst (Prod.snd (Prod.snd (Prod.snd x0)))) (g10_0 (Prod.fst (Prod.snd (Prod.snd x0))) (g9_0 (Prod.fst x0) x1)), Decidable.decide (g11_0 (Prod.fst (Prod.snd (Prod.snd (Prod.snd x0)))) (g10_0 (Prod.fst (Prod.snd (Prod.snd x0))) (g9_0 (Prod.fst x0) x1)) < 0) = Bool.true]) := by kernel_rfl
theorem p4_3 (x0 : TyA0) (x1 : Int) : runF tab ext4 false 54 [] 2000 [] oks4 kds4 tys4 Try.f4.results [false, false, false, true] [.code b4] (entE 0 0 sig4 (x0, x1, ())) (entL sig4 (x0, x1, ())) = some ([Dyn.mk (Ty.int IntKind.i64) (-1)], [], [P9 (Prod.fst x0) x1, Decidable.decide (g9_0 (Prod.fst x0) x1 < 0) = Bool.false, P10 (Prod.fst (Prod.snd (Prod.snd x0))) (g9_0 (Prod.fst x0) x1), Decidable.decide (g10_0 (Prod.fst (Prod.snd (Prod.snd x0))) (g9_0 (Prod.fst x0) x1) < 0) = Bool.false, P11 (Prod.fst (Prod.snd (Prod.snd (Prod.snd x0)))) (g10_0 (Prod.fst (Prod.snd (Prod.snd x0))) (g9_0 (Prod.fst x0) x1)), Decidable.decide (g11_0 (Prod.fst (Prod.snd (Prod.snd (Prod.snd x0)))) (g10_0 (Prod.fst (Prod.snd (Prod.snd x0))) (g9_0 (Prod.fst x0) x1)) < 0) = Bool.false, P12 (Prod.fst (Prod.snd (Prod.snd (Prod.snd (Prod.snd (Prod.snd (Prod.snd x0))))))) (g11_0 (Prod.fst (Prod.snd (Prod.snd (Prod.snd x0)))) (g10_0 (Prod.fst (Prod.snd (Prod.snd x0))) (g9_0 (Prod.fst x0) x1))), Decidable.decide (g12_0 (Prod.fst (Prod.snd (Prod.snd (Prod.snd (Prod.snd (Prod.snd (Prod.snd x0))))))) (g11_0 (Prod.fst (Prod.snd (Prod.snd (Prod.snd x0)))) (g10_0 (Prod.fst (Prod.snd (Prod.snd x0))) (g9_0 (Prod.fst x0) x1))) < 0) = Bool.true]) := by kernel_rfl
theorem p4_4 (x0 : TyA0) (x1 : Int) : runF tab ext4 false 54 [] 2000 [] oks4 kds4 tys4 Try.f4.results [false, false, false, false, true] [.code b4] (entE 0 0 sig4 (x0, x1, ())) (entL sig4 (x0, x1, ())) = some ([Dyn.mk (Ty.int IntKind.i64) (-1)], [], [P9 (Prod.fst x0) x1, Decidable.decide (g9_0 (Prod.fst x0) x1 < 0) = Bool.false, P10 (Prod.fst (Prod.snd (Prod.snd x0))) (g9_0 (Prod.fst x0) x1), Decidable.decide (g10_0 (Prod.fst (Prod.snd (Prod.snd x0))) (g9_0 (Prod.fst x0) x1) < 0) = Bool.false, P11 (Prod.fst (Prod.snd (Prod.snd (Prod.snd x0)))) (g10_0 (Prod.fst (Prod.snd (Prod.snd x0))) (g9_0 (Prod.fst x0) x1)), Decidable.decide (g11_0 (Prod.fst (Prod.snd (Prod.snd (Prod.snd x0)))) (g10_0 (Prod.fst (Prod.snd (Prod.snd x0))) (g9_0 (Prod.fst x0) x1)) < 0) = Bool.false, P12 (Prod.fst (Prod.snd (Prod.snd (Prod.snd (Prod.snd (Prod.snd (Prod.snd x0))))))) (g11_0 (Prod.fst (Prod.snd (Prod.snd (Prod.snd x0)))) (g10_0 (Prod.fst (Prod.snd (Prod.snd x0))) (g9_0 (Prod.fst x0) x1))), Decidable.decide (g12_0 (Prod.fst (Prod.snd (Prod.snd (Prod.snd (Prod.snd (Prod.snd (Prod.snd x0))))))) (g11_0 (Prod.fst (Prod.snd (Prod.snd (Prod.snd x0)))) (g10_0 (Prod.fst (Prod.snd (Prod.snd x0))) (g9_0 (Prod.fst x0) x1))) < 0) = Bool.false, P13 (Prod.fst (Prod.snd (Prod.snd (Prod.snd (Prod.snd (Prod.snd (Prod.snd (Prod.snd (Prod.snd x0))))))))) (g12_0 (Prod.fst (Prod.snd (Prod.snd (Prod.snd (Prod.snd (Prod.snd (Prod.snd x0))))))) (g11_0 (Prod.fst (Prod.snd (Prod.snd (Prod.snd x0)))) (g10_0 (Prod.fst (Prod.snd (Prod.snd x0))) (g9_0 (Prod.fst x0) x1)))), Decidable.decide (g13_0 (Prod.fst (Prod.snd (Prod.snd (Prod.snd (Prod.snd (Prod.snd (Prod.snd (Prod.snd (Prod.snd x0))))))))) (g12_0 (Prod.fst (Prod.snd (Prod.snd (Prod.snd (Prod.snd (Prod.snd (Prod.snd x0))))))) (g11_0 (Prod.fst (Prod.snd (Prod.snd (Prod.snd x0)))) (g10_0 (Prod.fst (Prod.snd (Prod.snd x0))) (g9_0 (Prod.fst x0) x1)))) < 0) = Bool.true]) := by kernel_rfl
theorem p4_5 (x0 : TyA0) (x1 : Int) : runF tab ext4 false 54 [] 2000 [] oks4 kds4 tys4 Try.f4.results [false, false, false, false, false, true] [.code b4] (entE 0 0 sig4 (x0, x1, ())) (entL sig4 (x0, x1, ())) = some ([Dyn.mk (Ty.int IntKind.i64) (-1)], [], [P9 (Prod.fst x0) x1, Decidable.decide (g9_0 (Prod.fst x0) x1 < 0) = Bool.false, P10 (Prod.fst (Prod.snd (Prod.snd x0))) (g9_0 (Prod.fst x0) x1), Decidable.decide (g10_0 (Prod.fst (Prod.snd (Prod.snd x0))) (g9_0 (Prod.fst x0) x1) < 0) = Bool.false, P11 (Prod.fst (Prod.snd (Prod.snd (Prod.snd x0)))) (g10_0 (Prod.fst (Prod.snd (Prod.snd x0))) (g9_0 (Prod.fst x0) x1)), Decidable.decide (g11_0 (Prod.fst (Prod.snd (Prod.snd (Prod.snd x0)))) (g10_0 (Prod.fst (Prod.snd (Prod.snd x0))) (g9_0 (Prod.fst x0) x1)) < 0) = Bool.false, P12 (Prod.fst (Prod.snd (Prod.snd (Prod.snd (Prod.snd (Prod.snd (Prod.snd x0))))))) (g11_0 (Prod.fst (Prod.snd (Prod.snd (Prod.snd x0)))) (g10_0 (Prod.fst (Prod.snd (Prod.snd x0))) (g9_0 (Prod.fst x0) x1))), Decidable.decide (g12_0 (Prod.fst (Prod.snd (Prod.snd (Prod.snd (Prod.snd (Prod.snd (Prod.snd x0))))))) (g11_0 (Prod.fst (Prod.snd (Prod.snd (Prod.snd x0)))) (g10_0 (Prod.fst (Prod.snd (Prod.snd x0))) (g9_0 (Prod.fst x0) x1))) < 0) = Bool.false, P13 (Prod.fst (Prod.snd (Prod.snd (Prod.snd (Prod.snd (Prod.snd (Prod.snd (Prod.snd (Prod.snd x0))))))))) (g12_0 (Prod.fst (Prod.snd (Prod.snd (Prod.snd (Prod.snd (Prod.snd (Prod.snd x0))))))) (g11_0 (Prod.fst (Prod.snd (Prod.snd (Prod.snd x0)))) (g10_0 (Prod.fst (Prod.snd (Prod.snd x0))) (g9_0 (Prod.fst x0) x1)))), Decidable.decide (g13_0 (Prod.fst (Prod.snd (Prod.snd (Prod.snd (Prod.snd (Prod.snd (Prod.snd (Prod.snd (Prod.snd x0))))))))) (g12_0 (Prod.fst (Prod.snd (Prod.snd (Prod.snd (Prod.snd (Prod.snd (Prod.snd x0))))))) (g11_0 (Prod.fst (Prod.snd (Prod.snd (Prod.snd x0)))) (g10_0 (Prod.fst (Prod.snd (Prod.snd x0))) (g9_0 (Prod.fst x0) x1)))) < 0) = Bool.false, P14 (Prod.fst (Prod.snd (Prod.snd (Prod.snd (Prod.snd (Prod.snd (Prod.snd (Prod.snd (Prod.snd (Prod.snd x0)))))))))) (g13_0 (Prod.fst (Prod.snd (Prod.snd (Prod.snd (Prod.snd (Prod.snd (Prod.snd (Prod.snd (Prod.snd x0))))))))) (g12_0 (Prod.fst (Prod.snd (Prod.snd (Prod.snd (Prod.snd (Prod.snd (Prod.snd x0))))))) (g11_0 (Prod.fst (Prod.snd (Prod.snd (Prod.snd x0)))) (g10_0 (Prod.fst (Prod.snd (Prod.snd x0))) (g9_0 (Prod.fst x0) x1))))), Decidable.decide (g14_0 (Prod.fst (Prod.snd (Prod.snd (Prod.snd (Prod.snd (Prod.snd (Prod.snd (Prod.snd (Prod.snd (Prod.snd x0)))))))))) (g13_0 (Prod.fst (Prod.snd (Prod.snd (Prod.snd (Prod.snd (Prod.snd (Prod.snd (Prod.snd (Prod.snd x0))))))))) (g12_0 (Prod.fst (Prod.snd (Prod.snd (Prod.snd (Prod.snd (Prod.snd (Prod.snd x0))))))) (g11_0 (Prod.fst (Prod.snd (Prod.snd (Prod.snd x0)))) (g10_0 (Prod.fst (Prod.snd (Prod.snd x0))) (g9_0 (Prod.fst x0) x1))))) < 0) = Bool.true]) := by kernel_rfl
theorem p4_6 (x0 : TyA0) (x1 : Int) : runF tab ext4 false 54 [] 2000 [] oks4 kds4 tys4 Try.f4.results [false, false, false, false, false, false, true] [.code b4] (entE 0 0 sig4 (x0, x1, ())) (entL sig4 (x0, x1, ())) = some ([Dyn.mk (Ty.int IntKind.i64) (-1)], [], [P9 (Prod.fst x0) x1, Decidable.decide (g9_0 (Prod.fst x0) x1 < 0) = Bool.false, P10 (Prod.fst (Prod.snd (Prod.snd x0))) (g9_0 (Prod.fst x0) x1), Decidable.decide (g10_0 (Prod.fst (Prod.snd (Prod.snd x0))) (g9_0 (Prod.fst x0) x1) < 0) = Bool.false, P11 (Prod.fst (Prod.snd (Prod.snd (Prod.snd x0)))) (g10_0 (Prod.fst (Prod.snd (Prod.snd x0))) (g9_0 (Prod.fst x0) x1)), Decidable.decide (g11_0 (Prod.fst (Prod.snd (Prod.snd (Prod.snd x0)))) (g10_0 (Prod.fst (Prod.snd (Prod.snd x0))) (g9_0 (Prod.fst x0) x1)) < 0) = Bool.false, P12 (Prod.fst (Prod.snd (Prod.snd (Prod.snd (Prod.snd (Prod.snd (Prod.snd x0))))))) (g11_0 (Prod.fst (Prod.snd (Prod.snd (Prod.snd x0)))) (g10_0 (Prod.fst (Prod.snd (Prod.snd x0))) (g9_0 (Prod.fst x0) x1))), Decidable.decide (g12_0 (Prod.fst (Prod.snd (Prod.snd (Prod.snd (Prod.snd (Prod.snd (Prod.snd x0))))))) (g11_0 (Prod.fst (Prod.snd (Prod.snd (Prod.snd x0)))) (g10_0 (Prod.fst (Prod.snd (Prod.snd x0))) (g9_0 (Prod.fst x0) x1))) < 0) = Bool.false, P13 (Prod.fst (Prod.snd (Prod.snd (Prod.snd (Prod.snd (Prod.snd (Prod.snd (Prod.snd (Prod.snd x0))))))))) (g12_0 (Prod.fst (Prod.snd (Prod.snd (Prod.snd (Prod.snd (Prod.snd (Prod.snd x0))))))) (g11_0 (Prod.fst (Prod.snd (Prod.snd (Prod.snd x0)))) (g10_0 (Prod.fst (Prod.snd (Prod.snd x0))) (g9_0 (Prod.fst x0) x1)))), Decidable.decide (g13_0 (Prod.fst (Prod.snd (Prod.snd (Prod.snd (Prod.snd (Prod.snd (Prod.snd (Prod.snd (Prod.snd x0))))))))) (g12_0 (Prod.fst (Prod.snd (Prod.snd (Prod.snd (Prod.snd (Prod.snd (Prod.snd x0))))))) (g11_0 (Prod.fst (Prod.snd (Prod.snd (Prod.snd x0)))) (g10_0 (Prod.fst (Prod.snd (Prod.snd x0))) (g9_0 (Prod.fst x0) x1)))) < 0) = Bool.false, P14 (Prod.fst (Prod.snd (Prod.snd (Prod.snd (Prod.snd (Prod.snd (Prod.snd (Prod.snd (Prod.snd (Prod.snd x0)))))))))) (g13_0 (Prod.fst (Prod.snd (Prod.snd (Prod.snd (Prod.snd (Prod.snd (Prod.snd (Prod.snd (Prod.snd x0))))))))) (g12_0 (Prod.fst (Prod.snd (Prod.snd (Prod.snd (Prod.snd (Prod.snd (Prod.snd x0))))))) (g11_0 (Prod.fst (Prod.snd (Prod.snd (Prod.snd x0)))) (g10_0 (Prod.fst (Prod.snd (Prod.snd x0))) (g9_0 (Prod.fst x0) x1))))), Decidable.decide (g14_0 (Prod.fst (Prod.snd (Prod.snd (Prod.snd (Prod.snd (Prod.snd (Prod.snd (Prod.snd (Prod.snd (Prod.snd x0)))))))))) (g13_0 (Prod.fst (Prod.snd (Prod.snd (Prod.snd (Prod.snd (Prod.snd (Prod.snd (Prod.snd (Prod.snd x0))))))))) (g12_0 (Prod.fst (Prod.snd (Prod.snd (Prod.snd (Prod.snd (Prod.snd (Prod.snd x0))))))) (g11_0 (Prod.fst (Prod.snd (Prod.snd (Prod.snd x0)))) (g10_0 (Prod.fst (Prod.snd (Prod.snd x0))) (g9_0 (Prod.fst x0) x1))))) < 0) = Bool.false, P15 (Prod.fst (Prod.snd (Prod.snd (Prod.snd (Prod.snd (Prod.snd (Prod.snd (Prod.snd (Prod.snd (Prod.snd (Prod.snd x0))))))))))) (g14_0 (Prod.fst (Prod.snd (Prod.snd (Prod.snd (Prod.snd (Prod.snd (Prod.snd (Prod.snd (Prod.snd (Prod.snd x0)))))))))) (g13_0 (Prod.fst (Prod.snd (Prod.snd (Prod.snd (Prod.snd (Prod.snd (Prod.snd (Prod.snd (Prod.snd x0))))))))) (g12_0 (Prod.fst (Prod.snd (Prod.snd (Prod.snd (Prod.snd (Prod.snd (Prod.snd x0))))))) (g11_0 (Prod.fst (Prod.snd (Prod.snd (Prod.snd x0)))) (g10_0 (Prod.fst (Prod.snd (Prod.snd x0))) (g9_0 (Prod.fst x0) x1)))))), Decidable.decide (g15_0 (Prod.fst (Prod.snd (Prod.snd (Prod.snd (Prod.snd (Prod.snd (Prod.snd (Prod.snd (Prod.snd (Prod.snd (Prod.snd x0))))))))))) (g14_0 (Prod.fst (Prod.snd (Prod.snd (Prod.snd (Prod.snd (Prod.snd (Prod.snd (Prod.snd (Prod.snd (Prod.snd x0)))))))))) (g13_0 (Prod.fst (Prod.snd (Prod.snd (Prod.snd (Prod.snd (Prod.snd (Prod.snd (Prod.snd (Prod.snd x0))))))))) (g12_0 (Prod.fst (Prod.snd (Prod.snd (Prod.snd (Prod.snd (Prod.snd (Prod.snd x0))))))) (g11_0 (Prod.fst (Prod.snd (Prod.snd (Prod.snd x0)))) (g10_0 (Prod.fst (Prod.snd (Prod.snd x0))) (g9_0 (Prod.fst x0) x1)))))) < 0) = Bool.true]) := by kernel_rfl
theorem p4_7 (x0 : TyA0) (x1 : Int) : runF tab ext4 false 54 [] 2000 [] oks4 kds4 tys4 Try.f4.results [false, false, false, false, false, false, false, true] [.code b4] (entE 0 0 sig4 (x0, x1, ())) (entL sig4 (x0, x1, ())) = some ([Dyn.mk (Ty.int IntKind.i64) (-1)], [], [P9 (Prod.fst x0) x1, Decidable.decide (g9_0 (Prod.fst x0) x1 < 0) = Bool.false, P10 (Prod.fst (Prod.snd (Prod.snd x0))) (g9_0 (Prod.fst x0) x1), Decidable.decide (g10_0 (Prod.fst (Prod.snd (Prod.snd x0))) (g9_0 (Prod.fst x0) x1) < 0) = Bool.false, P11 (Prod.fst (Prod.snd (Prod.snd (Prod.snd x0)))) (g10_0 (Prod.fst (Prod.snd (Prod.snd x0))) (g9_0 (Prod.fst x0) x1)), Decidable.decide (g11_0 (Prod.fst (Prod.snd (Prod.snd (Prod.snd x0)))) (g10_0 (Prod.fst (Prod.snd (Prod.snd x0))) (g9_0 (Prod.fst x0) x1)) < 0) = Bool.false, P12 (Prod.fst (Prod.snd (Prod.snd (Prod.snd (Prod.snd (Prod.snd (Prod.snd x0))))))) (g11_0 (Prod.fst (Prod.snd (Prod.snd (Prod.snd x0)))) (g10_0 (Prod.fst (Prod.snd (Prod.snd x0))) (g9_0 (Prod.fst x0) x1))), Decidable.decide (g12_0 (Prod.fst (Prod.snd (Prod.snd (Prod.snd (Prod.snd (Prod.snd (Prod.snd x0))))))) (g11_0 (Prod.fst (Prod.snd (Prod.snd (Prod.snd x0)))) (g10_0 (Prod.fst (Prod.snd (Prod.snd x0))) (g9_0 (Prod.fst x0) x1))) < 0) = Bool.false, P13 (Prod.fst (Prod.snd (Prod.snd (Prod.snd (Prod.snd (Prod.snd (Prod.snd (Prod.snd (Prod.snd x0))))))))) (g12_0 (Prod.fst (Prod.snd (Prod.snd (Prod.snd (Prod.snd (Prod.snd (Prod.snd x0))))))) (g11_0 (Prod.fst (Prod.snd (Prod.snd (Prod.snd x0)))) (g10_0 (Prod.fst (Prod.snd (Prod.snd x0))) (g9_0 (Prod.fst x0) x1)))), Decidable.decide (g13_0 (Prod.fst (Prod.snd (Prod.snd (Prod.snd (Prod.snd (Prod.snd (Prod.snd (Prod.snd (Prod.snd x0))))))))) (g12_0 (Prod.fst (Prod.snd (Prod.snd (Prod.snd (Prod.snd (Prod.snd (Prod.snd x0))))))) (g11_0 (Prod.fst (Prod.snd (Prod.snd (Prod.snd x0)))) (g10_0 (Prod.fst (Prod.snd (Prod.snd x0))) (g9_0 (Prod.fst x0) x1)))) < 0) = Bool.false, P14 (Prod.fst (Prod.snd (Prod.snd (Prod.snd (Prod.snd (Prod.snd (Prod.snd (Prod.snd (Prod.snd (Prod.snd x0)))))))))) (g13_0 (Prod.fst (Prod.snd (Prod.snd (Prod.snd (Prod.snd (Prod.snd (Prod.snd (Prod.snd (Prod.snd x0))))))))) (g12_0 (Prod.fst (Prod.snd (Prod.snd (Prod.snd (Prod.snd (Prod.snd (Prod.snd x0))))))) (g11_0 (Prod.fst (Prod.snd (Prod.snd (Prod.snd x0)))) (g10_0 (Prod.fst (Prod.snd (Prod.snd x0))) (g9_0 (Prod.fst x0) x1))))), Decidable.decide (g14_0 (Prod.fst (Prod.snd (Prod.snd (Prod.snd (Prod.snd (Prod.snd (Prod.snd (Prod.snd (Prod.snd (Prod.snd x0)))))))))) (g13_0 (Prod.fst (Prod.snd (Prod.snd (Prod.snd (Prod.snd (Prod.snd (Prod.snd (Prod.snd (Prod.snd x0))))))))) (g12_0 (Prod.fst (Prod.snd (Prod.snd (Prod.snd (Prod.snd (Prod.snd (Prod.snd x0))))))) (g11_0 (Prod.fst (Prod.snd (Prod.snd (Prod.snd x0)))) (g10_0 (Prod.fst (Prod.snd (Prod.snd x0))) (g9_0 (Prod.fst x0) x1))))) < 0) = Bool.false, P15 (Prod.fst (Prod.snd (Prod.snd (Prod.snd (Prod.snd (Prod.snd (Prod.snd (Prod.snd (Prod.snd (Prod.snd (Prod.snd x0))))))))))) (g14_0 (Prod.fst (Prod.snd (Prod.snd (Prod.snd (Prod.snd (Prod.snd (Prod.snd (Prod.snd (Prod.snd (Prod.snd x0)))))))))) (g13_0 (Prod.fst (Prod.snd (Prod.snd (Prod.snd (Prod.snd (Prod.snd (Prod.snd (Prod.snd (Prod.snd x0))))))))) (g12_0 (Prod.fst (Prod.snd (Prod.snd (Prod.snd (Prod.snd (Prod.snd (Prod.snd x0))))))) (g11_0 (Prod.fst (Prod.snd (Prod.snd (Prod.snd x0)))) (g10_0 (Prod.fst (Prod.snd (Prod.snd x0))) (g9_0 (Prod.fst x0) x1)))))), Decidable.decide (g15_0 (Prod.fst (Prod.snd (Prod.snd (Prod.snd (Prod.snd (Prod.snd (Prod.snd (Prod.snd (Prod.snd (Prod.snd (Prod.snd x0))))))))))) (g14_0 (Prod.fst (Prod.snd (Prod.snd (Prod.snd (Prod.snd (Prod.snd (Prod.snd (Prod.snd (Prod.snd (Prod.snd x0)))))))))) (g13_0 (Prod.fst (Prod.snd (Prod.snd (Prod.snd (Prod.snd (Prod.snd (Prod.snd (Prod.snd (Prod.snd x0))))))))) (g12_0 (Prod.fst (Prod.snd (Prod.snd (Prod.snd (Prod.snd (Prod.snd (Prod.snd x0))))))) (g11_0 (Prod.fst (Prod.snd (Prod.snd (Prod.snd x0)))) (g10_0 (Prod.fst (Prod.snd (Prod.snd x0))) (g9_0 (Prod.fst x0) x1)))))) < 0) = Bool.false, P16 (Prod.fst (Prod.snd (Prod.snd (Prod.snd (Prod.snd (Prod.snd (Prod.snd (Prod.snd (Prod.snd (Prod.snd (Prod.snd (Prod.snd x0)))))))))))) (g15_0 (Prod.fst (Prod.snd (Prod.snd (Prod.snd (Prod.snd (Prod.snd (Prod.snd (Prod.snd (Prod.snd (Prod.snd (Prod.snd x0))))))))))) (g14_0 (Prod.fst (Prod.snd (Prod.snd (Prod.snd (Prod.snd (Prod.snd (Prod.snd (Prod.snd (Prod.snd (Prod.snd x0)))))))))) (g13_0 (Prod.fst (Prod.snd (Prod.snd (Prod.snd (Prod.snd (Prod.snd (Prod.snd (Prod.snd (Prod.snd x0))))))))) (g12_0 (Prod.fst (Prod.snd (Prod.snd (Prod.snd (Prod.snd (Prod.snd (Prod.snd x0))))))) (g11_0 (Prod.fst (Prod.snd (Prod.snd (Prod.snd x0)))) (g10_0 (Prod.fst (Prod.snd (Prod.snd x0))) (g9_0 (Prod.fst x0) x1))))))), Decidable.decide (g16_0 (Prod.fst (Prod.snd (Prod.snd (Prod.snd (Prod.snd (Prod.snd (Prod.snd (Prod.snd (Prod.snd (Prod.snd (Prod.snd (Prod.snd x0)))))))))))) (g15_0 (Prod.fst (Prod.snd (Prod.snd (Prod.snd (Prod.snd (Prod.snd (Prod.snd (Prod.snd (Prod.snd (Prod.snd (Prod.snd x0))))))))))) (g14_0 (Prod.fst (Prod.snd (Prod.snd (Prod.snd (Prod.snd (Prod.snd (Prod.snd (Prod.snd (Prod.snd (Prod.snd x0)))))))))) (g13_0 (Prod.fst (Prod.snd (Prod.snd (Prod.snd (Prod.snd (Prod.snd (Prod.snd (Prod.snd (Prod.snd x0))))))))) (g12_0 (Prod.fst (Prod.snd (Prod.snd (Prod.snd (Prod.snd (Prod.snd (Prod.snd x0))))))) (g11_0 (Prod.fst (Prod.snd (Prod.snd (Prod.snd x0)))) (g10_0 (Prod.fst (Prod.snd (Prod.snd x0))) (g9_0 (Prod.fst x0) x1))))))) < 0) = Bool.true]) := by kernel_rfl
theorem p4_8 (x0 : TyA0) (x1 : Int) : runF tab ext4 false 54 [] 2000 [] oks4 kds4 tys4 Try.f4.results [false, false, false, false, false, false, false, false] [.code b4] (entE 0 0 sig4 (x0, x1, ())) (entL sig4 (x0, x1, ())) = some ([Dyn.mk (Ty.int IntKind.i64) (g16_0 (Prod.fst (Prod.snd (Prod.snd (Prod.snd (Prod.snd (Prod.snd (Prod.snd (Prod.snd (Prod.snd (Prod.snd (Prod.snd (Prod.snd x0)))))))))))) (g15_0 (Prod.fst (Prod.snd (Prod.snd (Prod.snd (Prod.snd (Prod.snd (Prod.snd (Prod.snd (Prod.snd (Prod.snd (Prod.snd x0))))))))))) (g14_0 (Prod.fst (Prod.snd (Prod.snd (Prod.snd (Prod.snd (Prod.snd (Prod.snd (Prod.snd (Prod.snd (Prod.snd x0)))))))))) (g13_0 (Prod.fst (Prod.snd (Prod.snd (Prod.snd (Prod.snd (Prod.snd (Prod.snd (Prod.snd (Prod.snd x0))))))))) (g12_0 (Prod.fst (Prod.snd (Prod.snd (Prod.snd (Prod.snd (Prod.snd (Prod.snd x0))))))) (g11_0 (Prod.fst (Prod.snd (Prod.snd (Prod.snd x0)))) (g10_0 (Prod.fst (Prod.snd (Prod.snd x0))) (g9_0 (Prod.fst x0) x1))))))))], [], [P9 (Prod.fst x0) x1, Decidable.decide (g9_0 (Prod.fst x0) x1 < 0) = Bool.false, P10 (Prod.fst (Prod.snd (Prod.snd x0))) (g9_0 (Prod.fst x0) x1), Decidable.decide (g10_0 (Prod.fst (Prod.snd (Prod.snd x0))) (g9_0 (Prod.fst x0) x1) < 0) = Bool.false, P11 (Prod.fst (Prod.snd (Prod.snd (Prod.snd x0)))) (g10_0 (Prod.fst (Prod.snd (Prod.snd x0))) (g9_0 (Prod.fst x0) x1)), Decidable.decide (g11_0 (Prod.fst (Prod.snd (Prod.snd (Prod.snd x0)))) (g10_0 (Prod.fst (Prod.snd (Prod.snd x0))) (g9_0 (Prod.fst x0) x1)) < 0) = Bool.false, P12 (Prod.fst (Prod.snd (Prod.snd (Prod.snd (Prod.snd (Prod.snd (Prod.snd x0))))))) (g11_0 (Prod.fst (Prod.snd (Prod.snd (Prod.snd x0)))) (g10_0 (Prod.fst (Prod.snd (Prod.snd x0))) (g9_0 (Prod.fst x0) x1))), Decidable.decide (g12_0 (Prod.fst (Prod.snd (Prod.snd (Prod.snd (Prod.snd (Prod.snd (Prod.snd x0))))))) (g11_0 (Prod.fst (Prod.snd (Prod.snd (Prod.snd x0)))) (g10_0 (Prod.fst (Prod.snd (Prod.snd x0))) (g9_0 (Prod.fst x0) x1))) < 0) = Bool.false, P13 (Prod.fst (Prod.snd (Prod.snd (Prod.snd (Prod.snd (Prod.snd (Prod.snd (Prod.snd (Prod.snd x0))))))))) (g12_0 (Prod.fst (Prod.snd (Prod.snd (Prod.snd (Prod.snd (Prod.snd (Prod.snd x0))))))) (g11_0 (Prod.fst (Prod.snd (Prod.snd (Prod.snd x0)))) (g10_0 (Prod.fst (Prod.snd (Prod.snd x0))) (g9_0 (Prod.fst x0) x1)))), Decidable.decide (g13_0 (Prod.fst (Prod.snd (Prod.snd (Prod.snd (Prod.snd (Prod.snd (Prod.snd (Prod.snd (Prod.snd x0))))))))) (g12_0 (Prod.fst (Prod.snd (Prod.snd (Prod.snd (Prod.snd (Prod.snd (Prod.snd x0))))))) (g11_0 (Prod.fst (Prod.snd (Prod.snd (Prod.snd x0)))) (g10_0 (Prod.fst (Prod.snd (Prod.snd x0))) (g9_0 (Prod.fst x0) x1)))) < 0) = Bool.false, P14 (Prod.fst (Prod.snd (Prod.snd (Prod.snd (Prod.snd (Prod.snd (Prod.snd (Prod.snd (Prod.snd (Prod.snd x0)))))))))) (g13_0 (Prod.fst (Prod.snd (Prod.snd (Prod.snd (Prod.snd (Prod.snd (Prod.snd (Prod.snd (Prod.snd x0))))))))) (g12_0 (Prod.fst (Prod.snd (Prod.snd (Prod.snd (Prod.snd (Prod.snd (Prod.snd x0))))))) (g11_0 (Prod.fst (Prod.snd (Prod.snd (Prod.snd x0)))) (g10_0 (Prod.fst (Prod.snd (Prod.snd x0))) (g9_0 (Prod.fst x0) x1))))), Decidable.decide (g14_0 (Prod.fst (Prod.snd (Prod.snd (Prod.snd (Prod.snd (Prod.snd (Prod.snd (Prod.snd (Prod.snd (Prod.snd x0)))))))))) (g13_0 (Prod.fst (Prod.snd (Prod.snd (Prod.snd (Prod.snd (Prod.snd (Prod.snd (Prod.snd (Prod.snd x0))))))))) (g12_0 (Prod.fst (Prod.snd (Prod.snd (Prod.snd (Prod.snd (Prod.snd (Prod.snd x0))))))) (g11_0 (Prod.fst (Prod.snd (Prod.snd (Prod.snd x0)))) (g10_0 (Prod.fst (Prod.snd (Prod.snd x0))) (g9_0 (Prod.fst x0) x1))))) < 0) = Bool.false, P15 (Prod.fst (Prod.snd (Prod.snd (Prod.snd (Prod.snd (Prod.snd (Prod.snd (Prod.snd (Prod.snd (Prod.snd (Prod.snd x0))))))))))) (g14_0 (Prod.fst (Prod.snd (Prod.snd (Prod.snd (Prod.snd (Prod.snd (Prod.snd (Prod.snd (Prod.snd (Prod.snd x0)))))))))) (g13_0 (Prod.fst (Prod.snd (Prod.snd (Prod.snd (Prod.snd (Prod.snd (Prod.snd (Prod.snd (Prod.snd x0))))))))) (g12_0 (Prod.fst (Prod.snd (Prod.snd (Prod.snd (Prod.snd (Prod.snd (Prod.snd x0))))))) (g11_0 (Prod.fst (Prod.snd (Prod.snd (Prod.snd x0)))) (g10_0 (Prod.fst (Prod.snd (Prod.snd x0))) (g9_0 (Prod.fst x0) x1)))))), Decidable.decide (g15_0 (Prod.fst (Prod.snd (Prod.snd (Prod.snd (Prod.snd (Prod.snd (Prod.snd (Prod.snd (Prod.snd (Prod.snd (Prod.snd x0))))))))))) (g14_0 (Prod.fst (Prod.snd (Prod.snd (Prod.snd (Prod.snd (Prod.snd (Prod.snd (Prod.snd (Prod.snd (Prod.snd x0)))))))))) (g13_0 (Prod.fst (Prod.snd (Prod.snd (Prod.snd (Prod.snd (Prod.snd (Prod.snd (Prod.snd (Prod.snd x0))))))))) (g12_0 (Prod.fst (Prod.snd (Prod.snd (Prod.snd (Prod.snd (Prod.snd (Prod.snd x0))))))) (g11_0 (Prod.fst (Prod.snd (Prod.snd (Prod.snd x0)))) (g10_0 (Prod.fst (Prod.snd (Prod.snd x0))) (g9_0 (Prod.fst x0) x1)))))) < 0) = Bool.false, P16 (Prod.fst (Prod.snd (Prod.snd (Prod.snd (Prod.snd (Prod.snd (Prod.snd (Prod.snd (Prod.snd (Prod.snd (Prod.snd (Prod.snd x0)))))))))))) (g15_0 (Prod.fst (Prod.snd (Prod.snd (Prod.snd (Prod.snd (Prod.snd (Prod.snd (Prod.snd (Prod.snd (Prod.snd (Prod.snd x0))))))))))) (g14_0 (Prod.fst (Prod.snd (Prod.snd (Prod.snd (Prod.snd (Prod.snd (Prod.snd (Prod.snd (Prod.snd (Prod.snd x0)))))))))) (g13_0 (Prod.fst (Prod.snd (Prod.snd (Prod.snd (Prod.snd (Prod.snd (Prod.snd (Prod.snd (Prod.snd x0))))))))) (g12_0 (Prod.fst (Prod.snd (Prod.snd (Prod.snd (Prod.snd (Prod.snd (Prod.snd x0))))))) (g11_0 (Prod.fst (Prod.snd (Prod.snd (Prod.snd x0)))) (g10_0 (Prod.fst (Prod.snd (Prod.snd x0))) (g9_0 (Prod.fst x0) x1))))))), Decidable.decide (g16_0 (Prod.fst (Prod.snd (Prod.snd (Prod.snd (Prod.snd (Prod.snd (Prod.snd (Prod.snd (Prod.snd (Prod.snd (Prod.snd (Prod.snd x0)))))))))))) (g15_0 (Prod.fst (Prod.snd (Prod.snd (Prod.snd (Prod.snd (Prod.snd (Prod.snd (Prod.snd (Prod.snd (Prod.snd (Prod.snd x0))))))))))) (g14_0 (Prod.fst (Prod.snd (Prod.snd (Prod.snd (Prod.snd (Prod.snd (Prod.snd (Prod.snd (Prod.snd (Prod.snd x0)))))))))) (g13_0 (Prod.fst (Prod.snd (Prod.snd (Prod.snd (Prod.snd (Prod.snd (Prod.snd (Prod.snd (Prod.snd x0))))))))) (g12_0 (Prod.fst (Prod.snd (Prod.snd (Prod.snd (Prod.snd (Prod.snd (Prod.snd x0))))))) (g11_0 (Prod.fst (Prod.snd (Prod.snd (Prod.snd x0)))) (g10_0 (Prod.fst (Prod.snd (Prod.snd x0))) (g9_0 (Prod.fst x0) x1))))))) < 0) = Bool.false]) := by kernel_rfl
theorem at4 (x0 : TyA0) (x1 : Int) (h : P4 x0 x1) (K : Ctx) (q : Nat → Value) : AtV Try.prog 4 (PostR kds4 oks4 [⟨Ty.int IntKind.i64, g4_0 x0 x1⟩] [] [] q K) 54 K q [] [.code b4] (entE 0 0 sig4 (x0, x1, ())) (entL sig4 (x0, x1, ())) := by
  unfold P4 at h
  unfold g4_0
  obtain ⟨s0, h⟩ := h
  by_cases b0 : (Decidable.decide (g9_0 (Prod.fst x0) x1 < 0)) = true
  · try simp only [if_pos b0] at h ⊢
    exact AtV.fin Try.func4 tabOk ext4Ok mixed (p4_0 x0 x1) ⟨s0, b0, trivial⟩
  · try simp only [if_neg b0] at h ⊢
    replace b0 := Bool.eq_false_iff.2 b0
    obtain ⟨s1, h⟩ := h
    by_cases b1 : (Decidable.decide (g10_0 (Prod.fst (Prod.snd (Prod.snd x0))) (g9_0 (Prod.fst x0) x1) < 0)) = true
    · try simp only [if_pos b1] at h ⊢
      exact AtV.fin Try.func4 tabOk ext4Ok mixed (p4_1 x0 x1) ⟨s0, b0, s1, b1, trivial⟩
    · try simp only [if_neg b1] at h ⊢
      replace b1 := Bool.eq_false_iff.2 b1
      obtain ⟨s2, h⟩ := h
      by_cases b2 : (Decidable.decide (g11_0 (Prod.fst (Prod.snd (Prod.snd (Prod.snd x0)))) (g10_0 (Prod.fst (Prod.snd (Prod.snd x0))) (g9_0 (Prod.fst x0) x1)) < 0)) = true
      · try simp only [if_pos b2] at h ⊢
        exact AtV.fin Try.func4 tabOk ext4Ok mixed (p4_2 x0 x1) ⟨s0, b0, s1, b1, s2, b2, trivial⟩
      · try simp only [if_neg b2] at h ⊢
        replace b2 := Bool.eq_false_iff.2 b2
        obtain ⟨s3, h⟩ := h
        by_cases b3 : (Decidable.decide (g12_0 (Prod.fst (Prod.snd (Prod.snd (Prod.snd (Prod.snd (Prod.snd (Prod.snd x0))))))) (g11_0 (Prod.fst (Prod.snd (Prod.snd (Prod.snd x0)))) (g10_0 (Prod.fst (Prod.snd (Prod.snd x0))) (g9_0 (Prod.fst x0) x1))) < 0)) = true
        · try simp only [if_pos b3] at h ⊢
          exact AtV.fin Try.func4 tabOk ext4Ok mixed (p4_3 x0 x1) ⟨s0, b0, s1, b1, s2, b2, s3, b3, trivial⟩
        · try simp only [if_neg b3] at h ⊢
          replace b3 := Bool.eq_false_iff.2 b3
          obtain ⟨s4, h⟩ := h
          by_cases b4 : (Decidable.decide (g13_0 (Prod.fst (Prod.snd (Prod.snd (Prod.snd (Prod.snd (Prod.snd (Prod.snd (Prod.snd (Prod.snd x0))))))))) (g12_0 (Prod.fst (Prod.snd (Prod.snd (Prod.snd (Prod.snd (Prod.snd (Prod.snd x0))))))) (g11_0 (Prod.fst (Prod.snd (Prod.snd (Prod.snd x0)))) (g10_0 (Prod.fst (Prod.snd (Prod.snd x0))) (g9_0 (Prod.fst x0) x1)))) < 0)) = true
          · try simp only [if_pos b4] at h ⊢
            exact AtV.fin Try.func4 tabOk ext4Ok mixed (p4_4 x0 x1) ⟨s0, b0, s1, b1, s2, b2, s3, b3, s4, b4, trivial⟩
          · try simp only [if_neg b4] at h ⊢
            replace b4 := Bool.eq_false_iff.2 b4
            obtain ⟨s5, h⟩ := h
            by_cases b5 : (Decidable.decide (g14_0 (Prod.fst (Prod.snd (Prod.snd (Prod.snd (Prod.snd (Prod.snd (Prod.snd (Prod.snd (Prod.snd (Prod.snd x0)))))))))) (g13_0 (Prod.fst (Prod.snd (Prod.snd (Prod.snd (Prod.snd (Prod.snd (Prod.snd (Prod.snd (Prod.snd x0))))))))) (g12_0 (Prod.fst (Prod.snd (Prod.snd (Prod.snd (Prod.snd (Prod.snd (Prod.snd x0))))))) (g11_0 (Prod.fst (Prod.snd (Prod.snd (Prod.snd x0)))) (g10_0 (Prod.fst (Prod.snd (Prod.snd x0))) (g9_0 (Prod.fst x0) x1))))) < 0)) = true
            · try simp only [if_pos b5] at h ⊢
              exact AtV.fin Try.func4 tabOk ext4Ok mixed (p4_5 x0 x1) ⟨s0, b0, s1, b1, s2, b2, s3, b3, s4, b4, s5, b5, trivial⟩
            · try simp only [if_neg b5] at h ⊢
              replace b5 := Bool.eq_false_iff.2 b5
              obtain ⟨s6, h⟩ := h
              by_cases b6 : (Decidable.decide (g15_0 (Prod.fst (Prod.snd (Prod.snd (Prod.snd (Prod.snd (Prod.snd (Prod.snd (Prod.snd (Prod.snd (Prod.snd (Prod.snd x0))))))))))) (g14_0 (Prod.fst (Prod.snd (Prod.snd (Prod.snd (Prod.snd (Prod.snd (Prod.snd (Prod.snd (Prod.snd (Prod.snd x0)))))))))) (g13_0 (Prod.fst (Prod.snd (Prod.snd (Prod.snd (Prod.snd (Prod.snd (Prod.snd (Prod.snd (Prod.snd x0))))))))) (g12_0 (Prod.fst (Prod.snd (Prod.snd (Prod.snd (Prod.snd (Prod.snd (Prod.snd x0))))))) (g11_0 (Prod.fst (Prod.snd (Prod.snd (Prod.snd x0)))) (g10_0 (Prod.fst (Prod.snd (Prod.snd x0))) (g9_0 (Prod.fst x0) x1)))))) < 0)) = true
              · try simp only [if_pos b6] at h ⊢
                exact AtV.fin Try.func4 tabOk ext4Ok mixed (p4_6 x0 x1) ⟨s0, b0, s1, b1, s2, b2, s3, b3, s4, b4, s5, b5, s6, b6, trivial⟩
              · try simp only [if_neg b6] at h ⊢
                replace b6 := Bool.eq_false_iff.2 b6
                obtain ⟨s7, h⟩ := h
                by_cases b7 : (Decidable.decide (g16_0 (Prod.fst (Prod.snd (Prod.snd (Prod.snd (Prod.snd (Prod.snd (Prod.snd (Prod.snd (Prod.snd (Prod.snd (Prod.snd (Prod.snd x0)))))))))))) (g15_0 (Prod.fst (Prod.snd (Prod.snd (Prod.snd (Prod.snd (Prod.snd (Prod.snd (Prod.snd (Prod.snd (Prod.snd (Prod.snd x0))))))))))) (g14_0 (Prod.fst (Prod.snd (Prod.snd (Prod.snd (Prod.snd (Prod.snd (Prod.snd (Prod.snd (Prod.snd (Prod.snd x0)))))))))) (g13_0 (Prod.fst (Prod.snd (Prod.snd (Prod.snd (Prod.snd (Prod.snd (Prod.snd (Prod.snd (Prod.snd x0))))))))) (g12_0 (Prod.fst (Prod.snd (Prod.snd (Prod.snd (Prod.snd (Prod.snd (Prod.snd x0))))))) (g11_0 (Prod.fst (Prod.snd (Prod.snd (Prod.snd x0)))) (g10_0 (Prod.fst (Prod.snd (Prod.snd x0))) (g9_0 (Prod.fst x0) x1))))))) < 0)) = true
                · try simp only [if_pos b7] at h ⊢
                  exact AtV.fin Try.func4 tabOk ext4Ok mixed (p4_7 x0 x1) ⟨s0, b0, s1, b1, s2, b2, s3, b3, s4, b4, s5, b5, s6, b6, s7, b7, trivial⟩
                · try simp only [if_neg b7] at h ⊢
                  replace b7 := Bool.eq_false_iff.2 b7
                  exact AtV.fin Try.func4 tabOk ext4Ok mixed (p4_8 x0 x1) ⟨s0, b0, s1, b1, s2, b2, s3, b3, s4, b4, s5, b5, s6, b6, s7, b7, trivial⟩

def S4 : Am.Spec := { sig := sig4, pre := fun ⟨x0, x1, _⟩ => P4 x0 x1, res := fun ⟨x0, x1, _⟩ => [⟨Ty.int IntKind.i64, g4_0 x0 x1⟩], kds := kds4 }
theorem con4 : Contract Try.prog 4 S4 := contract_of Try.func4 hb4 (Nat.le_of_ble_eq_true (by kernel_rfl)) (fun ⟨x0, x1, _⟩ h _ K q => at4 x0 x1 h K q)


end Go.Proofs.Ytpcfcplggpchjaa

/- Function 55 (laws.toBend): its runs between cut points. Written by a program of this repo (gen). -/
set_option linter.unusedVariables false
set_option linter.unusedSimpArgs false
set_option maxRecDepth 100000
namespace Go.Proofs.Ytpcfcplggpchjaa
open Go Go.Am Go.Proofs
def ext55 : Ext := []
theorem ext55Ok : ExtOk Try.prog ext55 := trivial

noncomputable def b55 : Code := bodyOf Try.f55
theorem hb55 : Try.f55.body = some b55 := by kernel_rfl
def sig55 : List AT := [AT.v (Ty.cons Ty.str (Ty.cons (Ty.int IntKind.i64) (Ty.cons (Ty.int IntKind.i64) (Ty.cons (Ty.int IntKind.i64) Ty.unit))))]
def tys55 : List Ty := [Ty.cons Ty.str (Ty.cons (Ty.int IntKind.i64) (Ty.cons (Ty.int IntKind.i64) (Ty.cons (Ty.int IntKind.i64) Ty.unit)))]
def kds55 : List RK := []
def oks55 : List AT := owns sig55
def P55 (x0 : ByteArray × Int × Int × Int × Unit) : Prop := True
def g55_0 (x0 : ByteArray × Int × Int × Int × Unit) : ByteArray × Int × Int × Int × Unit := (Prod.fst x0, Prod.fst (Prod.snd x0), Prod.fst (Prod.snd (Prod.snd x0)), Prod.fst (Prod.snd (Prod.snd (Prod.snd x0))), ())
theorem p55_0 (x0 : ByteArray × Int × Int × Int × Unit) : runF tab ext55 false 17 [] 2000 [] oks55 kds55 tys55 Try.f55.results [] [.code b55] (entE 0 0 sig55 (x0, ())) (entL sig55 (x0, ())) = some ([Dyn.mk (Ty.cons Ty.str (Ty.cons (Ty.int IntKind.i64) (Ty.cons (Ty.int IntKind.i64) (Ty.cons (Ty.int IntKind.i64) Ty.unit)))) (Prod.fst x0, Prod.fst (Prod.snd x0), Prod.fst (Prod.snd (Prod.snd x0)), Prod.fst (Prod.snd (Prod.snd (Prod.snd x0))), ())], [], []) := by kernel_rfl
theorem at55 (x0 : ByteArray × Int × Int × Int × Unit) (h : P55 x0) (K : Ctx) (q : Nat → Value) : AtV Try.prog 55 (PostR kds55 oks55 [⟨Ty.cons Ty.str (Ty.cons (Ty.int IntKind.i64) (Ty.cons (Ty.int IntKind.i64) (Ty.cons (Ty.int IntKind.i64) Ty.unit))), g55_0 x0⟩] [] [] q K) 17 K q [] [.code b55] (entE 0 0 sig55 (x0, ())) (entL sig55 (x0, ())) := by
  unfold P55 at h
  unfold g55_0
  exact AtV.fin Try.func55 tabOk ext55Ok mixed (p55_0 x0) trivial

def S55 : Am.Spec := { sig := sig55, pre := fun ⟨x0, _⟩ => P55 x0, res := fun ⟨x0, _⟩ => [⟨Ty.cons Ty.str (Ty.cons (Ty.int IntKind.i64) (Ty.cons (Ty.int IntKind.i64) (Ty.cons (Ty.int IntKind.i64) Ty.unit))), g55_0 x0⟩], kds := kds55 }
theorem con55 : Contract Try.prog 55 S55 := contract_of Try.func55 hb55 (Nat.le_of_ble_eq_true (by kernel_rfl)) (fun ⟨x0, _⟩ h _ K q => at55 x0 h K q)


end Go.Proofs.Ytpcfcplggpchjaa

/- Function 18 (laws.toBendS): its runs between cut points. Written by a program of this repo (gen). -/
set_option linter.unusedVariables false
set_option linter.unusedSimpArgs false
set_option maxRecDepth 100000
namespace Go.Proofs.Ytpcfcplggpchjaa
open Go Go.Am Go.Proofs
def ext18 : Ext := [(55, S55)]
theorem call18_55 : Callable Try.prog 55 := ⟨Try.f55, Try.func55, by kernel_rfl, by kernel_rfl⟩
theorem ext18Ok : ExtOk Try.prog ext18 := ⟨⟨call18_55, con55⟩, trivial⟩

noncomputable def b18 : Code := bodyOf Try.f18
theorem hb18 : Try.f18.body = some b18 := by kernel_rfl
def sig18 : List AT := [AT.v (Ty.sl (Ty.cons Ty.str (Ty.cons (Ty.int IntKind.i64) (Ty.cons (Ty.int IntKind.i64) (Ty.cons (Ty.int IntKind.i64) Ty.unit)))))]
def tys18 : List Ty := [Ty.sl (Ty.cons Ty.str (Ty.cons (Ty.int IntKind.i64) (Ty.cons (Ty.int IntKind.i64) (Ty.cons (Ty.int IntKind.i64) Ty.unit))))]
def kds18 : List RK := []
def oks18 : List AT := owns sig18
def E18_3 (v4 : Int) (h0 : List (ByteArray × Int × Int × Int × Unit)) (x0 : List (ByteArray × Int × Int × Int × Unit)) : Env := [(0, PV.a (Atom.sl (Ty.cons Ty.str (Ty.cons (Ty.int IntKind.i64) (Ty.cons (Ty.int IntKind.i64) (Ty.cons (Ty.int IntKind.i64) Ty.unit)))) x0)), (3, PV.a (Atom.osl 0 Option.none)), (4, PV.a (Atom.val (Value.int IntKind.i64 v4)))]
def L18_3 (v4 : Int) (h0 : List (ByteArray × Int × Int × Int × Unit)) (x0 : List (ByteArray × Int × Int × Int × Unit)) : Heap := [Option.some (Arr.mk (Ty.cons Ty.str (Ty.cons (Ty.int IntKind.i64) (Ty.cons (Ty.int IntKind.i64) (Ty.cons (Ty.int IntKind.i64) Ty.unit)))) h0 Bool.false Option.none Option.none)]
mutual
def R18 : Nat → List (ByteArray × Int × Int × Int × Unit) → List Dyn → Prop
  | 0, _, _ => False
  | n + 1, x0, ds => ((0 ≤ (↑(List.length x0) : Int)) ∧ ((↑(List.length x0) : Int) ≤ (↑(List.length x0) : Int)) ∧ (40 * (↑(List.length x0) : Int) ≤ 281474976710656) ∧ (R18_3 n (0) (List.replicate (Int.toNat (↑(List.length x0) : Int)) (ByteArray.empty, 0, 0, 0, ())) (x0) ds))
def R18_3 : Nat → Int → List (ByteArray × Int × Int × Int × Unit) → List (ByteArray × Int × Int × Int × Unit) → List Dyn → Prop
  | 0, _, _, _, _ => False
  | n + 1, v4, h0, x0, ds => (if (Decidable.decide (v4 < (↑(List.length x0) : Int))) = true then ((0 ≤ v4) ∧ (v4 < (↑(List.length x0) : Int)) ∧ ((0 ≤ v4) ∧ (v4 < (↑(List.length h0) : Int)) ∧ ((InR IntKind.i64 (v4 + 1)) ∧ (R18_3 n (v4 + 1) (List.set h0 (Int.toNat v4) (Prod.fst (List.getD x0 (Int.toNat v4) (ByteArray.empty, 0, 0, 0, ())), Prod.fst (Prod.snd (List.getD x0 (Int.toNat v4) (ByteArray.empty, 0, 0, 0, ()))), Prod.fst (Prod.snd (Prod.snd (List.getD x0 (Int.toNat v4) (ByteArray.empty, 0, 0, 0, ())))), Prod.fst (Prod.snd (Prod.snd (Prod.snd (List.getD x0 (Int.toNat v4) (ByteArray.empty, 0, 0, 0, ()))))), ())) (x0) ds)))) else (ds = [Dyn.mk (Ty.sl (Ty.cons Ty.str (Ty.cons (Ty.int IntKind.i64) (Ty.cons (Ty.int IntKind.i64) (Ty.cons (Ty.int IntKind.i64) Ty.unit))))) h0]))
end
theorem p18_0 (x0 : List (ByteArray × Int × Int × Int × Unit)) : Am.runN tab ext18 false 23 [] 2000 [] [] [0, 3, 4] [0] [] [.code b18] (entE 0 0 sig18 (x0, ())) (entL sig18 (x0, ())) = some (cutAt b18 3, E18_3 (0) (List.replicate (Int.toNat (↑(List.length x0) : Int)) (ByteArray.empty, 0, 0, 0, ())) (x0), L18_3 (0) (List.replicate (Int.toNat (↑(List.length x0) : Int)) (ByteArray.empty, 0, 0, 0, ())) (x0), [0 ≤ (↑(List.length x0) : Int), (↑(List.length x0) : Int) ≤ (↑(List.length x0) : Int), 40 * (↑(List.length x0) : Int) ≤ 281474976710656]) := by kernel_rfl
theorem p18_1 (v4 : Int) (h0 : List (ByteArray × Int × Int × Int × Unit)) (x0 : List (ByteArray × Int × Int × Int × Unit)) : Am.runN tab ext18 false 23 [] 2000 [] [] [0, 3, 4] [0] [true] (cutAt b18 3) (E18_3 v4 h0 x0) (L18_3 v4 h0 x0) = some (cutAt b18 3, E18_3 (v4 + 1) (List.set h0 (Int.toNat v4) (Prod.fst (List.getD x0 (Int.toNat v4) (ByteArray.empty, 0, 0, 0, ())), Prod.fst (Prod.snd (List.getD x0 (Int.toNat v4) (ByteArray.empty, 0, 0, 0, ()))), Prod.fst (Prod.snd (Prod.snd (List.getD x0 (Int.toNat v4) (ByteArray.empty, 0, 0, 0, ())))), Prod.fst (Prod.snd (Prod.snd (Prod.snd (List.getD x0 (Int.toNat v4) (ByteArray.empty, 0, 0, 0, ()))))), ())) (x0), L18_3 (v4 + 1) (List.set h0 (Int.toNat v4) (Prod.fst (List.getD x0 (Int.toNat v4) (ByteArray.empty, 0, 0, 0, ())), Prod.fst (Prod.snd (List.getD x0 (Int.toNat v4) (ByteArray.empty, 0, 0, 0, ()))), Prod.fst (Prod.snd (Prod.snd (List.getD x0 (Int.toNat v4) (ByteArray.empty, 0, 0, 0, ())))), Prod.fst (Prod.snd (Prod.snd (Prod.snd (List.getD x0 (Int.toNat v4) (ByteArray.empty, 0, 0, 0, ()))))), ())) (x0), [Decidable.decide (v4 < (↑(List.length x0) : Int)) = Bool.true, 0 ≤ v4, v4 < (↑(List.length x0) : Int), True, 0 ≤ v4, v4 < (↑(List.length h0) : Int), InR IntKind.i64 (v4 + 1)]) := by kernel_rfl
theorem p18_2 (v4 : Int) (h0 : List (ByteArray × Int × Int × Int × Unit)) (x0 : List (ByteArray × Int × Int × Int × Unit)) : runF tab ext18 false 23 [] 2000 [] oks18 kds18 tys18 Try.f18.results [false] (cutAt b18 3) (E18_3 v4 h0 x0) (L18_3 v4 h0 x0) = some ([Dyn.mk (Ty.sl (Ty.cons Ty.str (Ty.cons (Ty.int IntKind.i64) (Ty.cons (Ty.int IntKind.i64) (Ty.cons (Ty.int IntKind.i64) Ty.unit))))) h0], [], [Decidable.decide (v4 < (↑(List.length x0) : Int)) = Bool.false]) := by kernel_rfl
theorem snd18 : ∀ n, (∀ (x0 : List (ByteArray × Int × Int × Int × Unit)) ds, R18 n x0 ds → ∀ K q, AtV Try.prog 18 (PostR kds18 oks18 ds [] [] q K) 23 K q [] [.code b18] (entE 0 0 sig18 (x0, ())) (entL sig18 (x0, ()))) ∧ (∀ (v4 : Int) (h0 : List (ByteArray × Int × Int × Int × Unit)) (x0 : List (ByteArray × Int × Int × Int × Unit)) ds, R18_3 n v4 h0 x0 ds → ∀ K q, AtV Try.prog 18 (PostR kds18 oks18 ds [] [] q K) 23 K q [] (cutAt b18 3) (E18_3 v4 h0 x0) (L18_3 v4 h0 x0)) := by
  intro n
  induction n with
  | zero => exact ⟨fun _ _ h => by simp only [R18] at h, fun _ _ _ _ h => by simp only [R18_3] at h⟩
  | succ n ih =>
  obtain ⟨ih, ih3⟩ := ih
  refine ⟨?_, ?_⟩
  · intro x0 ds h K q
    rw [R18] at h
    obtain ⟨s0, s1, s2, h⟩ := h
    exact AtV.runN tabOk ext18Ok mixed (p18_0 x0) ⟨s0, s1, s2, trivial⟩ (ih3 _ _ _ _ h K q)

  · intro v4 h0 x0 ds h K q
    rw [R18_3] at h
    by_cases b0 : (Decidable.decide (v4 < (↑(List.length x0) : Int))) = true
    · rw [if_pos b0] at h
      obtain ⟨s0, s1, h⟩ := h
      obtain ⟨s2, s3, h⟩ := h
      obtain ⟨s4, h⟩ := h
      exact AtV.runN tabOk ext18Ok mixed (p18_1 v4 h0 x0) ⟨b0, s0, s1, trivial, s2, s3, s4, trivial⟩ (ih3 _ _ _ _ h K q)
    · rw [if_neg b0] at h
      replace b0 := Bool.eq_false_iff.2 b0
      subst h
      exact AtV.fin Try.func18 tabOk ext18Ok mixed (p18_2 v4 h0 x0) ⟨b0, trivial⟩



theorem run18 (x0 : List (ByteArray × Int × Int × Int × Unit)) (hm : x0.length ≤ maxLen) : ∀ (k i : Nat), i + k = x0.length →
    R18_3 (k + 1) (i : Int) (x0.take i ++ List.replicate k (ByteArray.empty, (0 : Int), (0 : Int), (0 : Int), ())) x0 [⟨.sl (.cons .str (.cons (.int .i64) (.cons (.int .i64) (.cons (.int .i64) .unit)))), x0⟩] := by
  intro k
  induction k with
  | zero =>
    intro i hi
    rw [R18_3, if_neg (by simp; omega), List.take_of_length_le (by omega)]
    simp
  | succ k ih =>
    intro i hi
    rw [R18_3, if_pos (by simp; omega)]
    simp only [Int.toNat_natCast]
    refine ⟨by omega, by omega, by omega, by simp; omega, inR_up hm (by omega), ?_⟩
    have hs := set_step x0 (ByteArray.empty, (0 : Int), (0 : Int), (0 : Int), ()) i (by omega) (k + 1) (by omega)
    have he : ∀ y : (ByteArray × Int × Int × Int × Unit), (y.1, y.2.1, y.2.2.1, y.2.2.2.1, ()) = y := fun _ => rfl
    rw [he, hs]
    exact ih (i + 1) (by omega)

def g18_0 (x0 : List (ByteArray × Int × Int × Int × Unit)) : List (ByteArray × Int × Int × Int × Unit) := x0
def P18 (x0 : List (ByteArray × Int × Int × Int × Unit)) : Prop := 40 * (x0.length : Int) ≤ 281474976710656
def S18 : Am.Spec := { sig := sig18, pre := fun ⟨x0, _⟩ => P18 x0, res := fun ⟨x0, _⟩ => [⟨.sl (.cons .str (.cons (.int .i64) (.cons (.int .i64) (.cons (.int .i64) .unit)))), g18_0 x0⟩] }
theorem con18 : Contract Try.prog 18 S18 := contract_of Try.func18 hb18 (Nat.le_of_ble_eq_true (by kernel_rfl)) (fun ⟨x0, _⟩ h hwf K q => by
  refine (snd18 (x0.length + 2)).1 x0 _ ?_ K q
  show R18 (x0.length + 1 + 1) x0 [⟨.sl (.cons .str (.cons (.int .i64) (.cons (.int .i64) (.cons (.int .i64) .unit)))), x0⟩]
  rw [R18]
  refine ⟨by omega, by omega, h, ?_⟩
  have := run18 x0 hwf.1.1 x0.length 0 (by omega)
  simpa using this)

end Go.Proofs.Ytpcfcplggpchjaa

/- Function 19 (laws.toRope): its runs between cut points. Written by a program of this repo (gen). -/
set_option linter.unusedVariables false
set_option linter.unusedSimpArgs false
set_option maxRecDepth 100000
namespace Go.Proofs.Ytpcfcplggpchjaa
open Go Go.Am Go.Proofs
def ext19 : Ext := []
theorem ext19Ok : ExtOk Try.prog ext19 := trivial

noncomputable def b19 : Code := bodyOf Try.f19
theorem hb19 : Try.f19.body = some b19 := by kernel_rfl
def sig19 : List AT := [AT.v (Ty.cons (Ty.int IntKind.i64) (Ty.cons (Ty.int IntKind.i64) (Ty.cons (Ty.int IntKind.i64) (Ty.cons (Ty.int IntKind.i64) Ty.unit))))]
def tys19 : List Ty := [Ty.cons (Ty.int IntKind.i64) (Ty.cons (Ty.int IntKind.i64) (Ty.cons (Ty.int IntKind.i64) (Ty.cons (Ty.int IntKind.i64) Ty.unit)))]
def kds19 : List RK := []
def oks19 : List AT := owns sig19
def P19 (x0 : Int × Int × Int × Int × Unit) : Prop := True
def g19_0 (x0 : Int × Int × Int × Int × Unit) : Int × Int × Int × Int × Unit := (Prod.fst x0, Prod.fst (Prod.snd x0), Prod.fst (Prod.snd (Prod.snd x0)), Prod.fst (Prod.snd (Prod.snd (Prod.snd x0))), ())
theorem p19_0 (x0 : Int × Int × Int × Int × Unit) : runF tab ext19 false 17 [] 2000 [] oks19 kds19 tys19 Try.f19.results [] [.code b19] (entE 0 0 sig19 (x0, ())) (entL sig19 (x0, ())) = some ([Dyn.mk (Ty.cons (Ty.int IntKind.i64) (Ty.cons (Ty.int IntKind.i64) (Ty.cons (Ty.int IntKind.i64) (Ty.cons (Ty.int IntKind.i64) Ty.unit)))) (Prod.fst x0, Prod.fst (Prod.snd x0), Prod.fst (Prod.snd (Prod.snd x0)), Prod.fst (Prod.snd (Prod.snd (Prod.snd x0))), ())], [], []) := by kernel_rfl
theorem at19 (x0 : Int × Int × Int × Int × Unit) (h : P19 x0) (K : Ctx) (q : Nat → Value) : AtV Try.prog 19 (PostR kds19 oks19 [⟨Ty.cons (Ty.int IntKind.i64) (Ty.cons (Ty.int IntKind.i64) (Ty.cons (Ty.int IntKind.i64) (Ty.cons (Ty.int IntKind.i64) Ty.unit))), g19_0 x0⟩] [] [] q K) 17 K q [] [.code b19] (entE 0 0 sig19 (x0, ())) (entL sig19 (x0, ())) := by
  unfold P19 at h
  unfold g19_0
  exact AtV.fin Try.func19 tabOk ext19Ok mixed (p19_0 x0) trivial

def S19 : Am.Spec := { sig := sig19, pre := fun ⟨x0, _⟩ => P19 x0, res := fun ⟨x0, _⟩ => [⟨Ty.cons (Ty.int IntKind.i64) (Ty.cons (Ty.int IntKind.i64) (Ty.cons (Ty.int IntKind.i64) (Ty.cons (Ty.int IntKind.i64) Ty.unit))), g19_0 x0⟩], kds := kds19 }
theorem con19 : Contract Try.prog 19 S19 := contract_of Try.func19 hb19 (Nat.le_of_ble_eq_true (by kernel_rfl)) (fun ⟨x0, _⟩ h _ K q => at19 x0 h K q)


end Go.Proofs.Ytpcfcplggpchjaa

/- Function 56 (laws.toHour): its runs between cut points. Written by a program of this repo (gen). -/
set_option linter.unusedVariables false
set_option linter.unusedSimpArgs false
set_option maxRecDepth 100000
namespace Go.Proofs.Ytpcfcplggpchjaa
open Go Go.Am Go.Proofs
def ext56 : Ext := []
theorem ext56Ok : ExtOk Try.prog ext56 := trivial

noncomputable def b56 : Code := bodyOf Try.f56
theorem hb56 : Try.f56.body = some b56 := by kernel_rfl
def sig56 : List AT := [AT.v (Ty.cons (Ty.int IntKind.i64) (Ty.cons (Ty.int IntKind.i64) (Ty.cons (Ty.int IntKind.i64) Ty.unit)))]
def tys56 : List Ty := [Ty.cons (Ty.int IntKind.i64) (Ty.cons (Ty.int IntKind.i64) (Ty.cons (Ty.int IntKind.i64) Ty.unit))]
def kds56 : List RK := []
def oks56 : List AT := owns sig56
def P56 (x0 : Int × Int × Int × Unit) : Prop := True
def g56_0 (x0 : Int × Int × Int × Unit) : Int × Int × Int × Unit := (Prod.fst x0, Prod.fst (Prod.snd x0), Prod.fst (Prod.snd (Prod.snd x0)), ())
theorem p56_0 (x0 : Int × Int × Int × Unit) : runF tab ext56 false 14 [] 2000 [] oks56 kds56 tys56 Try.f56.results [] [.code b56] (entE 0 0 sig56 (x0, ())) (entL sig56 (x0, ())) = some ([Dyn.mk (Ty.cons (Ty.int IntKind.i64) (Ty.cons (Ty.int IntKind.i64) (Ty.cons (Ty.int IntKind.i64) Ty.unit))) (Prod.fst x0, Prod.fst (Prod.snd x0), Prod.fst (Prod.snd (Prod.snd x0)), ())], [], []) := by kernel_rfl
theorem at56 (x0 : Int × Int × Int × Unit) (h : P56 x0) (K : Ctx) (q : Nat → Value) : AtV Try.prog 56 (PostR kds56 oks56 [⟨Ty.cons (Ty.int IntKind.i64) (Ty.cons (Ty.int IntKind.i64) (Ty.cons (Ty.int IntKind.i64) Ty.unit)), g56_0 x0⟩] [] [] q K) 14 K q [] [.code b56] (entE 0 0 sig56 (x0, ())) (entL sig56 (x0, ())) := by
  unfold P56 at h
  unfold g56_0
  exact AtV.fin Try.func56 tabOk ext56Ok mixed (p56_0 x0) trivial

def S56 : Am.Spec := { sig := sig56, pre := fun ⟨x0, _⟩ => P56 x0, res := fun ⟨x0, _⟩ => [⟨Ty.cons (Ty.int IntKind.i64) (Ty.cons (Ty.int IntKind.i64) (Ty.cons (Ty.int IntKind.i64) Ty.unit)), g56_0 x0⟩], kds := kds56 }
theorem con56 : Contract Try.prog 56 S56 := contract_of Try.func56 hb56 (Nat.le_of_ble_eq_true (by kernel_rfl)) (fun ⟨x0, _⟩ h _ K q => at56 x0 h K q)


end Go.Proofs.Ytpcfcplggpchjaa

/- Function 20 (laws.toHourS): its runs between cut points. Written by a program of this repo (gen). -/
set_option linter.unusedVariables false
set_option linter.unusedSimpArgs false
set_option maxRecDepth 100000
namespace Go.Proofs.Ytpcfcplggpchjaa
open Go Go.Am Go.Proofs
def ext20 : Ext := [(56, S56)]
theorem call20_56 : Callable Try.prog 56 := ⟨Try.f56, Try.func56, by kernel_rfl, by kernel_rfl⟩
theorem ext20Ok : ExtOk Try.prog ext20 := ⟨⟨call20_56, con56⟩, trivial⟩

noncomputable def b20 : Code := bodyOf Try.f20
theorem hb20 : Try.f20.body = some b20 := by kernel_rfl
def sig20 : List AT := [AT.v (Ty.sl (Ty.cons (Ty.int IntKind.i64) (Ty.cons (Ty.int IntKind.i64) (Ty.cons (Ty.int IntKind.i64) Ty.unit))))]
def tys20 : List Ty := [Ty.sl (Ty.cons (Ty.int IntKind.i64) (Ty.cons (Ty.int IntKind.i64) (Ty.cons (Ty.int IntKind.i64) Ty.unit)))]
def kds20 : List RK := []
def oks20 : List AT := owns sig20
def E20_3 (v4 : Int) (h0 : List (Int × Int × Int × Unit)) (x0 : List (Int × Int × Int × Unit)) : Env := [(0, PV.a (Atom.sl (Ty.cons (Ty.int IntKind.i64) (Ty.cons (Ty.int IntKind.i64) (Ty.cons (Ty.int IntKind.i64) Ty.unit))) x0)), (3, PV.a (Atom.osl 0 Option.none)), (4, PV.a (Atom.val (Value.int IntKind.i64 v4)))]
def L20_3 (v4 : Int) (h0 : List (Int × Int × Int × Unit)) (x0 : List (Int × Int × Int × Unit)) : Heap := [Option.some (Arr.mk (Ty.cons (Ty.int IntKind.i64) (Ty.cons (Ty.int IntKind.i64) (Ty.cons (Ty.int IntKind.i64) Ty.unit))) h0 Bool.false Option.none Option.none)]
mutual
def R20 : Nat → List (Int × Int × Int × Unit) → List Dyn → Prop
  | 0, _, _ => False
  | n + 1, x0, ds => ((0 ≤ (↑(List.length x0) : Int)) ∧ ((↑(List.length x0) : Int) ≤ (↑(List.length x0) : Int)) ∧ (24 * (↑(List.length x0) : Int) ≤ 281474976710656) ∧ (R20_3 n (0) (List.replicate (Int.toNat (↑(List.length x0) : Int)) (0, 0, 0, ())) (x0) ds))
def R20_3 : Nat → Int → List (Int × Int × Int × Unit) → List (Int × Int × Int × Unit) → List Dyn → Prop
  | 0, _, _, _, _ => False
  | n + 1, v4, h0, x0, ds => (if (Decidable.decide (v4 < (↑(List.length x0) : Int))) = true then ((0 ≤ v4) ∧ (v4 < (↑(List.length x0) : Int)) ∧ ((0 ≤ v4) ∧ (v4 < (↑(List.length h0) : Int)) ∧ ((InR IntKind.i64 (v4 + 1)) ∧ (R20_3 n (v4 + 1) (List.set h0 (Int.toNat v4) (Prod.fst (List.getD x0 (Int.toNat v4) (0, 0, 0, ())), Prod.fst (Prod.snd (List.getD x0 (Int.toNat v4) (0, 0, 0, ()))), Prod.fst (Prod.snd (Prod.snd (List.getD x0 (Int.toNat v4) (0, 0, 0, ())))), ())) (x0) ds)))) else (ds = [Dyn.mk (Ty.sl (Ty.cons (Ty.int IntKind.i64) (Ty.cons (Ty.int IntKind.i64) (Ty.cons (Ty.int IntKind.i64) Ty.unit)))) h0]))
end
theorem p20_0 (x0 : List (Int × Int × Int × Unit)) : Am.runN tab ext20 false 23 [] 2000 [] [] [0, 3, 4] [0] [] [.code b20] (entE 0 0 sig20 (x0, ())) (entL sig20 (x0, ())) = some (cutAt b20 3, E20_3 (0) (List.replicate (Int.toNat (↑(List.length x0) : Int)) (0, 0, 0, ())) (x0), L20_3 (0) (List.replicate (Int.toNat (↑(List.length x0) : Int)) (0, 0, 0, ())) (x0), [0 ≤ (↑(List.length x0) : Int), (↑(List.length x0) : Int) ≤ (↑(List.length x0) : Int), 24 * (↑(List.length x0) : Int) ≤ 281474976710656]) := by kernel_rfl
theorem p20_1 (v4 : Int) (h0 : List (Int × Int × Int × Unit)) (x0 : List (Int × Int × Int × Unit)) : Am.runN tab ext20 false 23 [] 2000 [] [] [0, 3, 4] [0] [true] (cutAt b20 3) (E20_3 v4 h0 x0) (L20_3 v4 h0 x0) = some (cutAt b20 3, E20_3 (v4 + 1) (List.set h0 (Int.toNat v4) (Prod.fst (List.getD x0 (Int.toNat v4) (0, 0, 0, ())), Prod.fst (Prod.snd (List.getD x0 (Int.toNat v4) (0, 0, 0, ()))), Prod.fst (Prod.snd (Prod.snd (List.getD x0 (Int.toNat v4) (0, 0, 0, ())))), ())) (x0), L20_3 (v4 + 1) (List.set h0 (Int.toNat v4) (Prod.fst (List.getD x0 (Int.toNat v4) (0, 0, 0, ())), Prod.fst (Prod.snd (List.getD x0 (Int.toNat v4) (0, 0, 0, ()))), Prod.fst (Prod.snd (Prod.snd (List.getD x0 (Int.toNat v4) (0, 0, 0, ())))), ())) (x0), [Decidable.decide (v4 < (↑(List.length x0) : Int)) = Bool.true, 0 ≤ v4, v4 < (↑(List.length x0) : Int), True, 0 ≤ v4, v4 < (↑(List.length h0) : Int), InR IntKind.i64 (v4 + 1)]) := by kernel_rfl
theorem p20_2 (v4 : Int) (h0 : List (Int × Int × Int × Unit)) (x0 : List (Int × Int × Int × Unit)) : runF tab ext20 false 23 [] 2000 [] oks20 kds20 tys20 Try.f20.results [false] (cutAt b20 3) (E20_3 v4 h0 x0) (L20_3 v4 h0 x0) = some ([Dyn.mk (Ty.sl (Ty.cons (Ty.int IntKind.i64) (Ty.cons (Ty.int IntKind.i64) (Ty.cons (Ty.int IntKind.i64) Ty.unit)))) h0], [], [Decidable.decide (v4 < (↑(List.length x0) : Int)) = Bool.false]) := by kernel_rfl
theorem snd20 : ∀ n, (∀ (x0 : List (Int × Int × Int × Unit)) ds, R20 n x0 ds → ∀ K q, AtV Try.prog 20 (PostR kds20 oks20 ds [] [] q K) 23 K q [] [.code b20] (entE 0 0 sig20 (x0, ())) (entL sig20 (x0, ()))) ∧ (∀ (v4 : Int) (h0 : List (Int × Int × Int × Unit)) (x0 : List (Int × Int × Int × Unit)) ds, R20_3 n v4 h0 x0 ds → ∀ K q, AtV Try.prog 20 (PostR kds20 oks20 ds [] [] q K) 23 K q [] (cutAt b20 3) (E20_3 v4 h0 x0) (L20_3 v4 h0 x0)) := by
  intro n
  induction n with
  | zero => exact ⟨fun _ _ h => by simp only [R20] at h, fun _ _ _ _ h => by simp only [R20_3] at h⟩
  | succ n ih =>
  obtain ⟨ih, ih3⟩ := ih
  refine ⟨?_, ?_⟩
  · intro x0 ds h K q
    rw [R20] at h
    obtain ⟨s0, s1, s2, h⟩ := h
    exact AtV.runN tabOk ext20Ok mixed (p20_0 x0) ⟨s0, s1, s2, trivial⟩ (ih3 _ _ _ _ h K q)

  · intro v4 h0 x0 ds h K q
    rw [R20_3] at h
    by_cases b0 : (Decidable.decide (v4 < (↑(List.length x0) : Int))) = true
    · rw [if_pos b0] at h
      obtain ⟨s0, s1, h⟩ := h
      obtain ⟨s2, s3, h⟩ := h
      obtain ⟨s4, h⟩ := h
      exact AtV.runN tabOk ext20Ok mixed (p20_1 v4 h0 x0) ⟨b0, s0, s1, trivial, s2, s3, s4, trivial⟩ (ih3 _ _ _ _ h K q)
    · rw [if_neg b0] at h
      replace b0 := Bool.eq_false_iff.2 b0
      subst h
      exact AtV.fin Try.func20 tabOk ext20Ok mixed (p20_2 v4 h0 x0) ⟨b0, trivial⟩



theorem run20 (x0 : List (Int × Int × Int × Unit)) (hm : x0.length ≤ maxLen) : ∀ (k i : Nat), i + k = x0.length →
    R20_3 (k + 1) (i : Int) (x0.take i ++ List.replicate k ((0 : Int), (0 : Int), (0 : Int), ())) x0 [⟨.sl (.cons (.int .i64) (.cons (.int .i64) (.cons (.int .i64) .unit))), x0⟩] := by
  intro k
  induction k with
  | zero =>
    intro i hi
    rw [R20_3, if_neg (by simp; omega), List.take_of_length_le (by omega)]
    simp
  | succ k ih =>
    intro i hi
    rw [R20_3, if_pos (by simp; omega)]
    simp only [Int.toNat_natCast]
    refine ⟨by omega, by omega, by omega, by simp; omega, inR_up hm (by omega), ?_⟩
    have hs := set_step x0 ((0 : Int), (0 : Int), (0 : Int), ()) i (by omega) (k + 1) (by omega)
    have he : ∀ y : (Int × Int × Int × Unit), (y.1, y.2.1, y.2.2.1, ()) = y := fun _ => rfl
    rw [he, hs]
    exact ih (i + 1) (by omega)

def g20_0 (x0 : List (Int × Int × Int × Unit)) : List (Int × Int × Int × Unit) := x0
def P20 (x0 : List (Int × Int × Int × Unit)) : Prop := 24 * (x0.length : Int) ≤ 281474976710656
def S20 : Am.Spec := { sig := sig20, pre := fun ⟨x0, _⟩ => P20 x0, res := fun ⟨x0, _⟩ => [⟨.sl (.cons (.int .i64) (.cons (.int .i64) (.cons (.int .i64) .unit))), g20_0 x0⟩] }
theorem con20 : Contract Try.prog 20 S20 := contract_of Try.func20 hb20 (Nat.le_of_ble_eq_true (by kernel_rfl)) (fun ⟨x0, _⟩ h hwf K q => by
  refine (snd20 (x0.length + 2)).1 x0 _ ?_ K q
  show R20 (x0.length + 1 + 1) x0 [⟨.sl (.cons (.int .i64) (.cons (.int .i64) (.cons (.int .i64) .unit))), x0⟩]
  rw [R20]
  refine ⟨by omega, by omega, h, ?_⟩
  have := run20 x0 hwf.1.1 x0.length 0 (by omega)
  simpa using this)

end Go.Proofs.Ytpcfcplggpchjaa

/- Function 57 (laws.toLimit): its runs between cut points. Written by a program of this repo (gen). -/
set_option linter.unusedVariables false
set_option linter.unusedSimpArgs false
set_option maxRecDepth 100000
namespace Go.Proofs.Ytpcfcplggpchjaa
open Go Go.Am Go.Proofs
def ext57 : Ext := []
theorem ext57Ok : ExtOk Try.prog ext57 := trivial

noncomputable def b57 : Code := bodyOf Try.f57
theorem hb57 : Try.f57.body = some b57 := by kernel_rfl
def sig57 : List AT := [AT.v (Ty.cons (Ty.int IntKind.i64) (Ty.cons (Ty.int IntKind.i64) (Ty.cons (Ty.int IntKind.i64) Ty.unit)))]
def tys57 : List Ty := [Ty.cons (Ty.int IntKind.i64) (Ty.cons (Ty.int IntKind.i64) (Ty.cons (Ty.int IntKind.i64) Ty.unit))]
def kds57 : List RK := []
def oks57 : List AT := owns sig57
def P57 (x0 : Int × Int × Int × Unit) : Prop := True
def g57_0 (x0 : Int × Int × Int × Unit) : Int × Int × Int × Unit := (Prod.fst x0, Prod.fst (Prod.snd x0), Prod.fst (Prod.snd (Prod.snd x0)), ())
theorem p57_0 (x0 : Int × Int × Int × Unit) : runF tab ext57 false 14 [] 2000 [] oks57 kds57 tys57 Try.f57.results [] [.code b57] (entE 0 0 sig57 (x0, ())) (entL sig57 (x0, ())) = some ([Dyn.mk (Ty.cons (Ty.int IntKind.i64) (Ty.cons (Ty.int IntKind.i64) (Ty.cons (Ty.int IntKind.i64) Ty.unit))) (Prod.fst x0, Prod.fst (Prod.snd x0), Prod.fst (Prod.snd (Prod.snd x0)), ())], [], []) := by kernel_rfl
theorem at57 (x0 : Int × Int × Int × Unit) (h : P57 x0) (K : Ctx) (q : Nat → Value) : AtV Try.prog 57 (PostR kds57 oks57 [⟨Ty.cons (Ty.int IntKind.i64) (Ty.cons (Ty.int IntKind.i64) (Ty.cons (Ty.int IntKind.i64) Ty.unit)), g57_0 x0⟩] [] [] q K) 14 K q [] [.code b57] (entE 0 0 sig57 (x0, ())) (entL sig57 (x0, ())) := by
  unfold P57 at h
  unfold g57_0
  exact AtV.fin Try.func57 tabOk ext57Ok mixed (p57_0 x0) trivial

def S57 : Am.Spec := { sig := sig57, pre := fun ⟨x0, _⟩ => P57 x0, res := fun ⟨x0, _⟩ => [⟨Ty.cons (Ty.int IntKind.i64) (Ty.cons (Ty.int IntKind.i64) (Ty.cons (Ty.int IntKind.i64) Ty.unit)), g57_0 x0⟩], kds := kds57 }
theorem con57 : Contract Try.prog 57 S57 := contract_of Try.func57 hb57 (Nat.le_of_ble_eq_true (by kernel_rfl)) (fun ⟨x0, _⟩ h _ K q => at57 x0 h K q)


end Go.Proofs.Ytpcfcplggpchjaa

/- Function 21 (laws.toLimitS): its runs between cut points. Written by a program of this repo (gen). -/
set_option linter.unusedVariables false
set_option linter.unusedSimpArgs false
set_option maxRecDepth 100000
namespace Go.Proofs.Ytpcfcplggpchjaa
open Go Go.Am Go.Proofs
def ext21 : Ext := [(57, S57)]
theorem call21_57 : Callable Try.prog 57 := ⟨Try.f57, Try.func57, by kernel_rfl, by kernel_rfl⟩
theorem ext21Ok : ExtOk Try.prog ext21 := ⟨⟨call21_57, con57⟩, trivial⟩

noncomputable def b21 : Code := bodyOf Try.f21
theorem hb21 : Try.f21.body = some b21 := by kernel_rfl
def sig21 : List AT := [AT.v (Ty.sl (Ty.cons (Ty.int IntKind.i64) (Ty.cons (Ty.int IntKind.i64) (Ty.cons (Ty.int IntKind.i64) Ty.unit))))]
def tys21 : List Ty := [Ty.sl (Ty.cons (Ty.int IntKind.i64) (Ty.cons (Ty.int IntKind.i64) (Ty.cons (Ty.int IntKind.i64) Ty.unit)))]
def kds21 : List RK := []
def oks21 : List AT := owns sig21
def E21_3 (v4 : Int) (h0 : List (Int × Int × Int × Unit)) (x0 : List (Int × Int × Int × Unit)) : Env := [(0, PV.a (Atom.sl (Ty.cons (Ty.int IntKind.i64) (Ty.cons (Ty.int IntKind.i64) (Ty.cons (Ty.int IntKind.i64) Ty.unit))) x0)), (3, PV.a (Atom.osl 0 Option.none)), (4, PV.a (Atom.val (Value.int IntKind.i64 v4)))]
def L21_3 (v4 : Int) (h0 : List (Int × Int × Int × Unit)) (x0 : List (Int × Int × Int × Unit)) : Heap := [Option.some (Arr.mk (Ty.cons (Ty.int IntKind.i64) (Ty.cons (Ty.int IntKind.i64) (Ty.cons (Ty.int IntKind.i64) Ty.unit))) h0 Bool.false Option.none Option.none)]
mutual
def R21 : Nat → List (Int × Int × Int × Unit) → List Dyn → Prop
  | 0, _, _ => False
  | n + 1, x0, ds => ((0 ≤ (↑(List.length x0) : Int)) ∧ ((↑(List.length x0) : Int) ≤ (↑(List.length x0) : Int)) ∧ (24 * (↑(List.length x0) : Int) ≤ 281474976710656) ∧ (R21_3 n (0) (List.replicate (Int.toNat (↑(List.length x0) : Int)) (0, 0, 0, ())) (x0) ds))
def R21_3 : Nat → Int → List (Int × Int × Int × Unit) → List (Int × Int × Int × Unit) → List Dyn → Prop
  | 0, _, _, _, _ => False
  | n + 1, v4, h0, x0, ds => (if (Decidable.decide (v4 < (↑(List.length x0) : Int))) = true then ((0 ≤ v4) ∧ (v4 < (↑(List.length x0) : Int)) ∧ ((0 ≤ v4) ∧ (v4 < (↑(List.length h0) : Int)) ∧ ((InR IntKind.i64 (v4 + 1)) ∧ (R21_3 n (v4 + 1) (List.set h0 (Int.toNat v4) (Prod.fst (List.getD x0 (Int.toNat v4) (0, 0, 0, ())), Prod.fst (Prod.snd (List.getD x0 (Int.toNat v4) (0, 0, 0, ()))), Prod.fst (Prod.snd (Prod.snd (List.getD x0 (Int.toNat v4) (0, 0, 0, ())))), ())) (x0) ds)))) else (ds = [Dyn.mk (Ty.sl (Ty.cons (Ty.int IntKind.i64) (Ty.cons (Ty.int IntKind.i64) (Ty.cons (Ty.int IntKind.i64) Ty.unit)))) h0]))
end
theorem p21_0 (x0 : List (Int × Int × Int × Unit)) : Am.runN tab ext21 false 23 [] 2000 [] [] [0, 3, 4] [0] [] [.code b21] (entE 0 0 sig21 (x0, ())) (entL sig21 (x0, ())) = some (cutAt b21 3, E21_3 (0) (List.replicate (Int.toNat (↑(List.length x0) : Int)) (0, 0, 0, ())) (x0), L21_3 (0) (List.replicate (Int.toNat (↑(List.length x0) : Int)) (0, 0, 0, ())) (x0), [0 ≤ (↑(List.length x0) : Int), (↑(List.length x0) : Int) ≤ (↑(List.length x0) : Int), 24 * (↑(List.length x0) : Int) ≤ 281474976710656]) := by kernel_rfl
theorem p21_1 (v4 : Int) (h0 : List (Int × Int × Int × Unit)) (x0 : List (Int × Int × Int × Unit)) : Am.runN tab ext21 false 23 [] 2000 [] [] [0, 3, 4] [0] [true] (cutAt b21 3) (E21_3 v4 h0 x0) (L21_3 v4 h0 x0) = some (cutAt b21 3, E21_3 (v4 + 1) (List.set h0 (Int.toNat v4) (Prod.fst (List.getD x0 (Int.toNat v4) (0, 0, 0, ())), Prod.fst (Prod.snd (List.getD x0 (Int.toNat v4) (0, 0, 0, ()))), Prod.fst (Prod.snd (Prod.snd (List.getD x0 (Int.toNat v4) (0, 0, 0, ())))), ())) (x0), L21_3 (v4 + 1) (List.set h0 (Int.toNat v4) (Prod.fst (List.getD x0 (Int.toNat v4) (0, 0, 0, ())), Prod.fst (Prod.snd (List.getD x0 (Int.toNat v4) (0, 0, 0, ()))), Prod.fst (Prod.snd (Prod.snd (List.getD x0 (Int.toNat v4) (0, 0, 0, ())))), ())) (x0), [Decidable.decide (v4 < (↑(List.length x0) : Int)) = Bool.true, 0 ≤ v4, v4 < (↑(List.length x0) : Int), True, 0 ≤ v4, v4 < (↑(List.length h0) : Int), InR IntKind.i64 (v4 + 1)]) := by kernel_rfl
theorem p21_2 (v4 : Int) (h0 : List (Int × Int × Int × Unit)) (x0 : List (Int × Int × Int × Unit)) : runF tab ext21 false 23 [] 2000 [] oks21 kds21 tys21 Try.f21.results [false] (cutAt b21 3) (E21_3 v4 h0 x0) (L21_3 v4 h0 x0) = some ([Dyn.mk (Ty.sl (Ty.cons (Ty.int IntKind.i64) (Ty.cons (Ty.int IntKind.i64) (Ty.cons (Ty.int IntKind.i64) Ty.unit)))) h0], [], [Decidable.decide (v4 < (↑(List.length x0) : Int)) = Bool.false]) := by kernel_rfl
theorem snd21 : ∀ n, (∀ (x0 : List (Int × Int × Int × Unit)) ds, R21 n x0 ds → ∀ K q, AtV Try.prog 21 (PostR kds21 oks21 ds [] [] q K) 23 K q [] [.code b21] (entE 0 0 sig21 (x0, ())) (entL sig21 (x0, ()))) ∧ (∀ (v4 : Int) (h0 : List (Int × Int × Int × Unit)) (x0 : List (Int × Int × Int × Unit)) ds, R21_3 n v4 h0 x0 ds → ∀ K q, AtV Try.prog 21 (PostR kds21 oks21 ds [] [] q K) 23 K q [] (cutAt b21 3) (E21_3 v4 h0 x0) (L21_3 v4 h0 x0)) := by
  intro n
  induction n with
  | zero => exact ⟨fun _ _ h => by simp only [R21] at h, fun _ _ _ _ h => by simp only [R21_3] at h⟩
  | succ n ih =>
  obtain ⟨ih, ih3⟩ := ih
  refine ⟨?_, ?_⟩
  · intro x0 ds h K q
    rw [R21] at h
    obtain ⟨s0, s1, s2, h⟩ := h
    exact AtV.runN tabOk ext21Ok mixed (p21_0 x0) ⟨s0, s1, s2, trivial⟩ (ih3 _ _ _ _ h K q)

  · intro v4 h0 x0 ds h K q
    rw [R21_3] at h
    by_cases b0 : (Decidable.decide (v4 < (↑(List.length x0) : Int))) = true
    · rw [if_pos b0] at h
      obtain ⟨s0, s1, h⟩ := h
      obtain ⟨s2, s3, h⟩ := h
      obtain ⟨s4, h⟩ := h
      exact AtV.runN tabOk ext21Ok mixed (p21_1 v4 h0 x0) ⟨b0, s0, s1, trivial, s2, s3, s4, trivial⟩ (ih3 _ _ _ _ h K q)
    · rw [if_neg b0] at h
      replace b0 := Bool.eq_false_iff.2 b0
      subst h
      exact AtV.fin Try.func21 tabOk ext21Ok mixed (p21_2 v4 h0 x0) ⟨b0, trivial⟩



theorem run21 (x0 : List (Int × Int × Int × Unit)) (hm : x0.length ≤ maxLen) : ∀ (k i : Nat), i + k = x0.length →
    R21_3 (k + 1) (i : Int) (x0.take i ++ List.replicate k ((0 : Int), (0 : Int), (0 : Int), ())) x0 [⟨.sl (.cons (.int .i64) (.cons (.int .i64) (.cons (.int .i64) .unit))), x0⟩] := by
  intro k
  induction k with
  | zero =>
    intro i hi
    rw [R21_3, if_neg (by simp; omega), List.take_of_length_le (by omega)]
    simp
  | succ k ih =>
    intro i hi
    rw [R21_3, if_pos (by simp; omega)]
    simp only [Int.toNat_natCast]
    refine ⟨by omega, by omega, by omega, by simp; omega, inR_up hm (by omega), ?_⟩
    have hs := set_step x0 ((0 : Int), (0 : Int), (0 : Int), ()) i (by omega) (k + 1) (by omega)
    have he : ∀ y : (Int × Int × Int × Unit), (y.1, y.2.1, y.2.2.1, ()) = y := fun _ => rfl
    rw [he, hs]
    exact ih (i + 1) (by omega)

def g21_0 (x0 : List (Int × Int × Int × Unit)) : List (Int × Int × Int × Unit) := x0
def P21 (x0 : List (Int × Int × Int × Unit)) : Prop := 24 * (x0.length : Int) ≤ 281474976710656
def S21 : Am.Spec := { sig := sig21, pre := fun ⟨x0, _⟩ => P21 x0, res := fun ⟨x0, _⟩ => [⟨.sl (.cons (.int .i64) (.cons (.int .i64) (.cons (.int .i64) .unit))), g21_0 x0⟩] }
theorem con21 : Contract Try.prog 21 S21 := contract_of Try.func21 hb21 (Nat.le_of_ble_eq_true (by kernel_rfl)) (fun ⟨x0, _⟩ h hwf K q => by
  refine (snd21 (x0.length + 2)).1 x0 _ ?_ K q
  show R21 (x0.length + 1 + 1) x0 [⟨.sl (.cons (.int .i64) (.cons (.int .i64) (.cons (.int .i64) .unit))), x0⟩]
  rw [R21]
  refine ⟨by omega, by omega, h, ?_⟩
  have := run21 x0 hwf.1.1 x0.length 0 (by omega)
  simpa using this)

end Go.Proofs.Ytpcfcplggpchjaa

/- Function 22 (laws.toMotor): its runs between cut points. Written by a program of this repo (gen). -/
set_option linter.unusedVariables false
set_option linter.unusedSimpArgs false
set_option maxRecDepth 100000
namespace Go.Proofs.Ytpcfcplggpchjaa
open Go Go.Am Go.Proofs
def ext22 : Ext := []
theorem ext22Ok : ExtOk Try.prog ext22 := trivial

noncomputable def b22 : Code := bodyOf Try.f22
theorem hb22 : Try.f22.body = some b22 := by kernel_rfl
def sig22 : List AT := [AT.v (Ty.cons (Ty.int IntKind.i64) (Ty.cons (Ty.int IntKind.i64) (Ty.cons (Ty.int IntKind.i64) Ty.unit)))]
def tys22 : List Ty := [Ty.cons (Ty.int IntKind.i64) (Ty.cons (Ty.int IntKind.i64) (Ty.cons (Ty.int IntKind.i64) Ty.unit))]
def kds22 : List RK := []
def oks22 : List AT := owns sig22
def P22 (x0 : Int × Int × Int × Unit) : Prop := True
def g22_0 (x0 : Int × Int × Int × Unit) : Int × Int × Int × Unit := (Prod.fst x0, Prod.fst (Prod.snd x0), Prod.fst (Prod.snd (Prod.snd x0)), ())
theorem p22_0 (x0 : Int × Int × Int × Unit) : runF tab ext22 false 14 [] 2000 [] oks22 kds22 tys22 Try.f22.results [] [.code b22] (entE 0 0 sig22 (x0, ())) (entL sig22 (x0, ())) = some ([Dyn.mk (Ty.cons (Ty.int IntKind.i64) (Ty.cons (Ty.int IntKind.i64) (Ty.cons (Ty.int IntKind.i64) Ty.unit))) (Prod.fst x0, Prod.fst (Prod.snd x0), Prod.fst (Prod.snd (Prod.snd x0)), ())], [], []) := by kernel_rfl
theorem at22 (x0 : Int × Int × Int × Unit) (h : P22 x0) (K : Ctx) (q : Nat → Value) : AtV Try.prog 22 (PostR kds22 oks22 [⟨Ty.cons (Ty.int IntKind.i64) (Ty.cons (Ty.int IntKind.i64) (Ty.cons (Ty.int IntKind.i64) Ty.unit)), g22_0 x0⟩] [] [] q K) 14 K q [] [.code b22] (entE 0 0 sig22 (x0, ())) (entL sig22 (x0, ())) := by
  unfold P22 at h
  unfold g22_0
  exact AtV.fin Try.func22 tabOk ext22Ok mixed (p22_0 x0) trivial

def S22 : Am.Spec := { sig := sig22, pre := fun ⟨x0, _⟩ => P22 x0, res := fun ⟨x0, _⟩ => [⟨Ty.cons (Ty.int IntKind.i64) (Ty.cons (Ty.int IntKind.i64) (Ty.cons (Ty.int IntKind.i64) Ty.unit)), g22_0 x0⟩], kds := kds22 }
theorem con22 : Contract Try.prog 22 S22 := contract_of Try.func22 hb22 (Nat.le_of_ble_eq_true (by kernel_rfl)) (fun ⟨x0, _⟩ h _ K q => at22 x0 h K q)


end Go.Proofs.Ytpcfcplggpchjaa

/- Function 23 (laws.toDoor): its runs between cut points. Written by a program of this repo (gen). -/
set_option linter.unusedVariables false
set_option linter.unusedSimpArgs false
set_option maxRecDepth 100000
namespace Go.Proofs.Ytpcfcplggpchjaa
open Go Go.Am Go.Proofs
def ext23 : Ext := []
theorem ext23Ok : ExtOk Try.prog ext23 := trivial

noncomputable def b23 : Code := bodyOf Try.f23
theorem hb23 : Try.f23.body = some b23 := by kernel_rfl
def sig23 : List AT := [AT.v (Ty.cons (Ty.int IntKind.i64) (Ty.cons (Ty.int IntKind.i64) (Ty.cons (Ty.int IntKind.i64) Ty.unit)))]
def tys23 : List Ty := [Ty.cons (Ty.int IntKind.i64) (Ty.cons (Ty.int IntKind.i64) (Ty.cons (Ty.int IntKind.i64) Ty.unit))]
def kds23 : List RK := []
def oks23 : List AT := owns sig23
def P23 (x0 : Int × Int × Int × Unit) : Prop := True
def g23_0 (x0 : Int × Int × Int × Unit) : Int × Int × Int × Unit := (Prod.fst x0, Prod.fst (Prod.snd x0), Prod.fst (Prod.snd (Prod.snd x0)), ())
theorem p23_0 (x0 : Int × Int × Int × Unit) : runF tab ext23 false 14 [] 2000 [] oks23 kds23 tys23 Try.f23.results [] [.code b23] (entE 0 0 sig23 (x0, ())) (entL sig23 (x0, ())) = some ([Dyn.mk (Ty.cons (Ty.int IntKind.i64) (Ty.cons (Ty.int IntKind.i64) (Ty.cons (Ty.int IntKind.i64) Ty.unit))) (Prod.fst x0, Prod.fst (Prod.snd x0), Prod.fst (Prod.snd (Prod.snd x0)), ())], [], []) := by kernel_rfl
theorem at23 (x0 : Int × Int × Int × Unit) (h : P23 x0) (K : Ctx) (q : Nat → Value) : AtV Try.prog 23 (PostR kds23 oks23 [⟨Ty.cons (Ty.int IntKind.i64) (Ty.cons (Ty.int IntKind.i64) (Ty.cons (Ty.int IntKind.i64) Ty.unit)), g23_0 x0⟩] [] [] q K) 14 K q [] [.code b23] (entE 0 0 sig23 (x0, ())) (entL sig23 (x0, ())) := by
  unfold P23 at h
  unfold g23_0
  exact AtV.fin Try.func23 tabOk ext23Ok mixed (p23_0 x0) trivial

def S23 : Am.Spec := { sig := sig23, pre := fun ⟨x0, _⟩ => P23 x0, res := fun ⟨x0, _⟩ => [⟨Ty.cons (Ty.int IntKind.i64) (Ty.cons (Ty.int IntKind.i64) (Ty.cons (Ty.int IntKind.i64) Ty.unit)), g23_0 x0⟩], kds := kds23 }
theorem con23 : Contract Try.prog 23 S23 := contract_of Try.func23 hb23 (Nat.le_of_ble_eq_true (by kernel_rfl)) (fun ⟨x0, _⟩ h _ K q => at23 x0 h K q)


end Go.Proofs.Ytpcfcplggpchjaa

/- Function 58 (laws.toWorker): its runs between cut points. Written by a program of this repo (gen). -/
set_option linter.unusedVariables false
set_option linter.unusedSimpArgs false
set_option maxRecDepth 100000
namespace Go.Proofs.Ytpcfcplggpchjaa
open Go Go.Am Go.Proofs
def ext58 : Ext := []
theorem ext58Ok : ExtOk Try.prog ext58 := trivial

noncomputable def b58 : Code := bodyOf Try.f58
theorem hb58 : Try.f58.body = some b58 := by kernel_rfl
def sig58 : List AT := [AT.v (Ty.cons Ty.str (Ty.cons (Ty.int IntKind.i64) (Ty.cons (Ty.int IntKind.i64) Ty.unit)))]
def tys58 : List Ty := [Ty.cons Ty.str (Ty.cons (Ty.int IntKind.i64) (Ty.cons (Ty.int IntKind.i64) Ty.unit))]
def kds58 : List RK := []
def oks58 : List AT := owns sig58
def P58 (x0 : ByteArray × Int × Int × Unit) : Prop := True
def g58_0 (x0 : ByteArray × Int × Int × Unit) : ByteArray × Int × Int × Unit := (Prod.fst x0, Prod.fst (Prod.snd x0), Prod.fst (Prod.snd (Prod.snd x0)), ())
theorem p58_0 (x0 : ByteArray × Int × Int × Unit) : runF tab ext58 false 14 [] 2000 [] oks58 kds58 tys58 Try.f58.results [] [.code b58] (entE 0 0 sig58 (x0, ())) (entL sig58 (x0, ())) = some ([Dyn.mk (Ty.cons Ty.str (Ty.cons (Ty.int IntKind.i64) (Ty.cons (Ty.int IntKind.i64) Ty.unit))) (Prod.fst x0, Prod.fst (Prod.snd x0), Prod.fst (Prod.snd (Prod.snd x0)), ())], [], []) := by kernel_rfl
theorem at58 (x0 : ByteArray × Int × Int × Unit) (h : P58 x0) (K : Ctx) (q : Nat → Value) : AtV Try.prog 58 (PostR kds58 oks58 [⟨Ty.cons Ty.str (Ty.cons (Ty.int IntKind.i64) (Ty.cons (Ty.int IntKind.i64) Ty.unit)), g58_0 x0⟩] [] [] q K) 14 K q [] [.code b58] (entE 0 0 sig58 (x0, ())) (entL sig58 (x0, ())) := by
  unfold P58 at h
  unfold g58_0
  exact AtV.fin Try.func58 tabOk ext58Ok mixed (p58_0 x0) trivial

def S58 : Am.Spec := { sig := sig58, pre := fun ⟨x0, _⟩ => P58 x0, res := fun ⟨x0, _⟩ => [⟨Ty.cons Ty.str (Ty.cons (Ty.int IntKind.i64) (Ty.cons (Ty.int IntKind.i64) Ty.unit)), g58_0 x0⟩], kds := kds58 }
theorem con58 : Contract Try.prog 58 S58 := contract_of Try.func58 hb58 (Nat.le_of_ble_eq_true (by kernel_rfl)) (fun ⟨x0, _⟩ h _ K q => at58 x0 h K q)


end Go.Proofs.Ytpcfcplggpchjaa

/- Function 24 (laws.toWorkerS): its runs between cut points. Written by a program of this repo (gen). -/
set_option linter.unusedVariables false
set_option linter.unusedSimpArgs false
set_option maxRecDepth 100000
namespace Go.Proofs.Ytpcfcplggpchjaa
open Go Go.Am Go.Proofs
def ext24 : Ext := [(58, S58)]
theorem call24_58 : Callable Try.prog 58 := ⟨Try.f58, Try.func58, by kernel_rfl, by kernel_rfl⟩
theorem ext24Ok : ExtOk Try.prog ext24 := ⟨⟨call24_58, con58⟩, trivial⟩

noncomputable def b24 : Code := bodyOf Try.f24
theorem hb24 : Try.f24.body = some b24 := by kernel_rfl
def sig24 : List AT := [AT.v (Ty.sl (Ty.cons Ty.str (Ty.cons (Ty.int IntKind.i64) (Ty.cons (Ty.int IntKind.i64) Ty.unit))))]
def tys24 : List Ty := [Ty.sl (Ty.cons Ty.str (Ty.cons (Ty.int IntKind.i64) (Ty.cons (Ty.int IntKind.i64) Ty.unit)))]
def kds24 : List RK := []
def oks24 : List AT := owns sig24
def E24_3 (v4 : Int) (h0 : List (ByteArray × Int × Int × Unit)) (x0 : List (ByteArray × Int × Int × Unit)) : Env := [(0, PV.a (Atom.sl (Ty.cons Ty.str (Ty.cons (Ty.int IntKind.i64) (Ty.cons (Ty.int IntKind.i64) Ty.unit))) x0)), (3, PV.a (Atom.osl 0 Option.none)), (4, PV.a (Atom.val (Value.int IntKind.i64 v4)))]
def L24_3 (v4 : Int) (h0 : List (ByteArray × Int × Int × Unit)) (x0 : List (ByteArray × Int × Int × Unit)) : Heap := [Option.some (Arr.mk (Ty.cons Ty.str (Ty.cons (Ty.int IntKind.i64) (Ty.cons (Ty.int IntKind.i64) Ty.unit))) h0 Bool.false Option.none Option.none)]
mutual
def R24 : Nat → List (ByteArray × Int × Int × Unit) → List Dyn → Prop
  | 0, _, _ => False
  | n + 1, x0, ds => ((0 ≤ (↑(List.length x0) : Int)) ∧ ((↑(List.length x0) : Int) ≤ (↑(List.length x0) : Int)) ∧ (32 * (↑(List.length x0) : Int) ≤ 281474976710656) ∧ (R24_3 n (0) (List.replicate (Int.toNat (↑(List.length x0) : Int)) (ByteArray.empty, 0, 0, ())) (x0) ds))
def R24_3 : Nat → Int → List (ByteArray × Int × Int × Unit) → List (ByteArray × Int × Int × Unit) → List Dyn → Prop
  | 0, _, _, _, _ => False
  | n + 1, v4, h0, x0, ds => (if (Decidable.decide (v4 < (↑(List.length x0) : Int))) = true then ((0 ≤ v4) ∧ (v4 < (↑(List.length x0) : Int)) ∧ ((0 ≤ v4) ∧ (v4 < (↑(List.length h0) : Int)) ∧ ((InR IntKind.i64 (v4 + 1)) ∧ (R24_3 n (v4 + 1) (List.set h0 (Int.toNat v4) (Prod.fst (List.getD x0 (Int.toNat v4) (ByteArray.empty, 0, 0, ())), Prod.fst (Prod.snd (List.getD x0 (Int.toNat v4) (ByteArray.empty, 0, 0, ()))), Prod.fst (Prod.snd (Prod.snd (List.getD x0 (Int.toNat v4) (ByteArray.empty, 0, 0, ())))), ())) (x0) ds)))) else (ds = [Dyn.mk (Ty.sl (Ty.cons Ty.str (Ty.cons (Ty.int IntKind.i64) (Ty.cons (Ty.int IntKind.i64) Ty.unit)))) h0]))
end
theorem p24_0 (x0 : List (ByteArray × Int × Int × Unit)) : Am.runN tab ext24 false 23 [] 2000 [] [] [0, 3, 4] [0] [] [.code b24] (entE 0 0 sig24 (x0, ())) (entL sig24 (x0, ())) = some (cutAt b24 3, E24_3 (0) (List.replicate (Int.toNat (↑(List.length x0) : Int)) (ByteArray.empty, 0, 0, ())) (x0), L24_3 (0) (List.replicate (Int.toNat (↑(List.length x0) : Int)) (ByteArray.empty, 0, 0, ())) (x0), [0 ≤ (↑(List.length x0) : Int), (↑(List.length x0) : Int) ≤ (↑(List.length x0) : Int), 32 * (↑(List.length x0) : Int) ≤ 281474976710656]) := by kernel_rfl
theorem p24_1 (v4 : Int) (h0 : List (ByteArray × Int × Int × Unit)) (x0 : List (ByteArray × Int × Int × Unit)) : Am.runN tab ext24 false 23 [] 2000 [] [] [0, 3, 4] [0] [true] (cutAt b24 3) (E24_3 v4 h0 x0) (L24_3 v4 h0 x0) = some (cutAt b24 3, E24_3 (v4 + 1) (List.set h0 (Int.toNat v4) (Prod.fst (List.getD x0 (Int.toNat v4) (ByteArray.empty, 0, 0, ())), Prod.fst (Prod.snd (List.getD x0 (Int.toNat v4) (ByteArray.empty, 0, 0, ()))), Prod.fst (Prod.snd (Prod.snd (List.getD x0 (Int.toNat v4) (ByteArray.empty, 0, 0, ())))), ())) (x0), L24_3 (v4 + 1) (List.set h0 (Int.toNat v4) (Prod.fst (List.getD x0 (Int.toNat v4) (ByteArray.empty, 0, 0, ())), Prod.fst (Prod.snd (List.getD x0 (Int.toNat v4) (ByteArray.empty, 0, 0, ()))), Prod.fst (Prod.snd (Prod.snd (List.getD x0 (Int.toNat v4) (ByteArray.empty, 0, 0, ())))), ())) (x0), [Decidable.decide (v4 < (↑(List.length x0) : Int)) = Bool.true, 0 ≤ v4, v4 < (↑(List.length x0) : Int), True, 0 ≤ v4, v4 < (↑(List.length h0) : Int), InR IntKind.i64 (v4 + 1)]) := by kernel_rfl
theorem p24_2 (v4 : Int) (h0 : List (ByteArray × Int × Int × Unit)) (x0 : List (ByteArray × Int × Int × Unit)) : runF tab ext24 false 23 [] 2000 [] oks24 kds24 tys24 Try.f24.results [false] (cutAt b24 3) (E24_3 v4 h0 x0) (L24_3 v4 h0 x0) = some ([Dyn.mk (Ty.sl (Ty.cons Ty.str (Ty.cons (Ty.int IntKind.i64) (Ty.cons (Ty.int IntKind.i64) Ty.unit)))) h0], [], [Decidable.decide (v4 < (↑(List.length x0) : Int)) = Bool.false]) := by kernel_rfl
theorem snd24 : ∀ n, (∀ (x0 : List (ByteArray × Int × Int × Unit)) ds, R24 n x0 ds → ∀ K q, AtV Try.prog 24 (PostR kds24 oks24 ds [] [] q K) 23 K q [] [.code b24] (entE 0 0 sig24 (x0, ())) (entL sig24 (x0, ()))) ∧ (∀ (v4 : Int) (h0 : List (ByteArray × Int × Int × Unit)) (x0 : List (ByteArray × Int × Int × Unit)) ds, R24_3 n v4 h0 x0 ds → ∀ K q, AtV Try.prog 24 (PostR kds24 oks24 ds [] [] q K) 23 K q [] (cutAt b24 3) (E24_3 v4 h0 x0) (L24_3 v4 h0 x0)) := by
  intro n
  induction n with
  | zero => exact ⟨fun _ _ h => by simp only [R24] at h, fun _ _ _ _ h => by simp only [R24_3] at h⟩
  | succ n ih =>
  obtain ⟨ih, ih3⟩ := ih
  refine ⟨?_, ?_⟩
  · intro x0 ds h K q
    rw [R24] at h
    obtain ⟨s0, s1, s2, h⟩ := h
    exact AtV.runN tabOk ext24Ok mixed (p24_0 x0) ⟨s0, s1, s2, trivial⟩ (ih3 _ _ _ _ h K q)

  · intro v4 h0 x0 ds h K q
    rw [R24_3] at h
    by_cases b0 : (Decidable.decide (v4 < (↑(List.length x0) : Int))) = true
    · rw [if_pos b0] at h
      obtain ⟨s0, s1, h⟩ := h
      obtain ⟨s2, s3, h⟩ := h
      obtain ⟨s4, h⟩ := h
      exact AtV.runN tabOk ext24Ok mixed (p24_1 v4 h0 x0) ⟨b0, s0, s1, trivial, s2, s3, s4, trivial⟩ (ih3 _ _ _ _ h K q)
    · rw [if_neg b0] at h
      replace b0 := Bool.eq_false_iff.2 b0
      subst h
      exact AtV.fin Try.func24 tabOk ext24Ok mixed (p24_2 v4 h0 x0) ⟨b0, trivial⟩



theorem run24 (x0 : List (ByteArray × Int × Int × Unit)) (hm : x0.length ≤ maxLen) : ∀ (k i : Nat), i + k = x0.length →
    R24_3 (k + 1) (i : Int) (x0.take i ++ List.replicate k (ByteArray.empty, (0 : Int), (0 : Int), ())) x0 [⟨.sl (.cons .str (.cons (.int .i64) (.cons (.int .i64) .unit))), x0⟩] := by
  intro k
  induction k with
  | zero =>
    intro i hi
    rw [R24_3, if_neg (by simp; omega), List.take_of_length_le (by omega)]
    simp
  | succ k ih =>
    intro i hi
    rw [R24_3, if_pos (by simp; omega)]
    simp only [Int.toNat_natCast]
    refine ⟨by omega, by omega, by omega, by simp; omega, inR_up hm (by omega), ?_⟩
    have hs := set_step x0 (ByteArray.empty, (0 : Int), (0 : Int), ()) i (by omega) (k + 1) (by omega)
    have he : ∀ y : (ByteArray × Int × Int × Unit), (y.1, y.2.1, y.2.2.1, ()) = y := fun _ => rfl
    rw [he, hs]
    exact ih (i + 1) (by omega)

def g24_0 (x0 : List (ByteArray × Int × Int × Unit)) : List (ByteArray × Int × Int × Unit) := x0
def P24 (x0 : List (ByteArray × Int × Int × Unit)) : Prop := 32 * (x0.length : Int) ≤ 281474976710656
def S24 : Am.Spec := { sig := sig24, pre := fun ⟨x0, _⟩ => P24 x0, res := fun ⟨x0, _⟩ => [⟨.sl (.cons .str (.cons (.int .i64) (.cons (.int .i64) .unit))), g24_0 x0⟩] }
theorem con24 : Contract Try.prog 24 S24 := contract_of Try.func24 hb24 (Nat.le_of_ble_eq_true (by kernel_rfl)) (fun ⟨x0, _⟩ h hwf K q => by
  refine (snd24 (x0.length + 2)).1 x0 _ ?_ K q
  show R24 (x0.length + 1 + 1) x0 [⟨.sl (.cons .str (.cons (.int .i64) (.cons (.int .i64) .unit))), x0⟩]
  rw [R24]
  refine ⟨by omega, by omega, h, ?_⟩
  have := run24 x0 hwf.1.1 x0.length 0 (by omega)
  simpa using this)

end Go.Proofs.Ytpcfcplggpchjaa

/- Function 25 (laws.toBasin): its runs between cut points. Written by a program of this repo (gen). -/
set_option linter.unusedVariables false
set_option linter.unusedSimpArgs false
set_option maxRecDepth 100000
namespace Go.Proofs.Ytpcfcplggpchjaa
open Go Go.Am Go.Proofs
def ext25 : Ext := []
theorem ext25Ok : ExtOk Try.prog ext25 := trivial

noncomputable def b25 : Code := bodyOf Try.f25
theorem hb25 : Try.f25.body = some b25 := by kernel_rfl
def sig25 : List AT := [AT.v (Ty.cons (Ty.int IntKind.i64) (Ty.cons (Ty.int IntKind.i64) (Ty.cons (Ty.int IntKind.i64) (Ty.cons (Ty.int IntKind.i64) Ty.unit))))]
def tys25 : List Ty := [Ty.cons (Ty.int IntKind.i64) (Ty.cons (Ty.int IntKind.i64) (Ty.cons (Ty.int IntKind.i64) (Ty.cons (Ty.int IntKind.i64) Ty.unit)))]
def kds25 : List RK := []
def oks25 : List AT := owns sig25
def P25 (x0 : Int × Int × Int × Int × Unit) : Prop := True
def g25_0 (x0 : Int × Int × Int × Int × Unit) : Int × Int × Int × Int × Unit := (Prod.fst x0, Prod.fst (Prod.snd x0), Prod.fst (Prod.snd (Prod.snd x0)), Prod.fst (Prod.snd (Prod.snd (Prod.snd x0))), ())
theorem p25_0 (x0 : Int × Int × Int × Int × Unit) : runF tab ext25 false 17 [] 2000 [] oks25 kds25 tys25 Try.f25.results [] [.code b25] (entE 0 0 sig25 (x0, ())) (entL sig25 (x0, ())) = some ([Dyn.mk (Ty.cons (Ty.int IntKind.i64) (Ty.cons (Ty.int IntKind.i64) (Ty.cons (Ty.int IntKind.i64) (Ty.cons (Ty.int IntKind.i64) Ty.unit)))) (Prod.fst x0, Prod.fst (Prod.snd x0), Prod.fst (Prod.snd (Prod.snd x0)), Prod.fst (Prod.snd (Prod.snd (Prod.snd x0))), ())], [], []) := by kernel_rfl
theorem at25 (x0 : Int × Int × Int × Int × Unit) (h : P25 x0) (K : Ctx) (q : Nat → Value) : AtV Try.prog 25 (PostR kds25 oks25 [⟨Ty.cons (Ty.int IntKind.i64) (Ty.cons (Ty.int IntKind.i64) (Ty.cons (Ty.int IntKind.i64) (Ty.cons (Ty.int IntKind.i64) Ty.unit))), g25_0 x0⟩] [] [] q K) 17 K q [] [.code b25] (entE 0 0 sig25 (x0, ())) (entL sig25 (x0, ())) := by
  unfold P25 at h
  unfold g25_0
  exact AtV.fin Try.func25 tabOk ext25Ok mixed (p25_0 x0) trivial

def S25 : Am.Spec := { sig := sig25, pre := fun ⟨x0, _⟩ => P25 x0, res := fun ⟨x0, _⟩ => [⟨Ty.cons (Ty.int IntKind.i64) (Ty.cons (Ty.int IntKind.i64) (Ty.cons (Ty.int IntKind.i64) (Ty.cons (Ty.int IntKind.i64) Ty.unit))), g25_0 x0⟩], kds := kds25 }
theorem con25 : Contract Try.prog 25 S25 := contract_of Try.func25 hb25 (Nat.le_of_ble_eq_true (by kernel_rfl)) (fun ⟨x0, _⟩ h _ K q => at25 x0 h K q)


end Go.Proofs.Ytpcfcplggpchjaa

/- Function 59 (laws.toFare): its runs between cut points. Written by a program of this repo (gen). -/
set_option linter.unusedVariables false
set_option linter.unusedSimpArgs false
set_option maxRecDepth 100000
namespace Go.Proofs.Ytpcfcplggpchjaa
open Go Go.Am Go.Proofs
def ext59 : Ext := []
theorem ext59Ok : ExtOk Try.prog ext59 := trivial

noncomputable def b59 : Code := bodyOf Try.f59
theorem hb59 : Try.f59.body = some b59 := by kernel_rfl
def sig59 : List AT := [AT.v (Ty.cons Ty.str (Ty.cons (Ty.int IntKind.i64) (Ty.cons (Ty.int IntKind.i64) (Ty.cons (Ty.int IntKind.i64) Ty.unit))))]
def tys59 : List Ty := [Ty.cons Ty.str (Ty.cons (Ty.int IntKind.i64) (Ty.cons (Ty.int IntKind.i64) (Ty.cons (Ty.int IntKind.i64) Ty.unit)))]
def kds59 : List RK := []
def oks59 : List AT := owns sig59
def P59 (x0 : ByteArray × Int × Int × Int × Unit) : Prop := True
def g59_0 (x0 : ByteArray × Int × Int × Int × Unit) : ByteArray × Int × Int × Int × Unit := (Prod.fst x0, Prod.fst (Prod.snd x0), Prod.fst (Prod.snd (Prod.snd x0)), Prod.fst (Prod.snd (Prod.snd (Prod.snd x0))), ())
theorem p59_0 (x0 : ByteArray × Int × Int × Int × Unit) : runF tab ext59 false 17 [] 2000 [] oks59 kds59 tys59 Try.f59.results [] [.code b59] (entE 0 0 sig59 (x0, ())) (entL sig59 (x0, ())) = some ([Dyn.mk (Ty.cons Ty.str (Ty.cons (Ty.int IntKind.i64) (Ty.cons (Ty.int IntKind.i64) (Ty.cons (Ty.int IntKind.i64) Ty.unit)))) (Prod.fst x0, Prod.fst (Prod.snd x0), Prod.fst (Prod.snd (Prod.snd x0)), Prod.fst (Prod.snd (Prod.snd (Prod.snd x0))), ())], [], []) := by kernel_rfl
theorem at59 (x0 : ByteArray × Int × Int × Int × Unit) (h : P59 x0) (K : Ctx) (q : Nat → Value) : AtV Try.prog 59 (PostR kds59 oks59 [⟨Ty.cons Ty.str (Ty.cons (Ty.int IntKind.i64) (Ty.cons (Ty.int IntKind.i64) (Ty.cons (Ty.int IntKind.i64) Ty.unit))), g59_0 x0⟩] [] [] q K) 17 K q [] [.code b59] (entE 0 0 sig59 (x0, ())) (entL sig59 (x0, ())) := by
  unfold P59 at h
  unfold g59_0
  exact AtV.fin Try.func59 tabOk ext59Ok mixed (p59_0 x0) trivial

def S59 : Am.Spec := { sig := sig59, pre := fun ⟨x0, _⟩ => P59 x0, res := fun ⟨x0, _⟩ => [⟨Ty.cons Ty.str (Ty.cons (Ty.int IntKind.i64) (Ty.cons (Ty.int IntKind.i64) (Ty.cons (Ty.int IntKind.i64) Ty.unit))), g59_0 x0⟩], kds := kds59 }
theorem con59 : Contract Try.prog 59 S59 := contract_of Try.func59 hb59 (Nat.le_of_ble_eq_true (by kernel_rfl)) (fun ⟨x0, _⟩ h _ K q => at59 x0 h K q)


end Go.Proofs.Ytpcfcplggpchjaa

/- Function 26 (laws.toFareS): its runs between cut points. Written by a program of this repo (gen). -/
set_option linter.unusedVariables false
set_option linter.unusedSimpArgs false
set_option maxRecDepth 100000
namespace Go.Proofs.Ytpcfcplggpchjaa
open Go Go.Am Go.Proofs
def ext26 : Ext := [(59, S59)]
theorem call26_59 : Callable Try.prog 59 := ⟨Try.f59, Try.func59, by kernel_rfl, by kernel_rfl⟩
theorem ext26Ok : ExtOk Try.prog ext26 := ⟨⟨call26_59, con59⟩, trivial⟩

noncomputable def b26 : Code := bodyOf Try.f26
theorem hb26 : Try.f26.body = some b26 := by kernel_rfl
def sig26 : List AT := [AT.v (Ty.sl (Ty.cons Ty.str (Ty.cons (Ty.int IntKind.i64) (Ty.cons (Ty.int IntKind.i64) (Ty.cons (Ty.int IntKind.i64) Ty.unit)))))]
def tys26 : List Ty := [Ty.sl (Ty.cons Ty.str (Ty.cons (Ty.int IntKind.i64) (Ty.cons (Ty.int IntKind.i64) (Ty.cons (Ty.int IntKind.i64) Ty.unit))))]
def kds26 : List RK := []
def oks26 : List AT := owns sig26
def E26_3 (v4 : Int) (h0 : List (ByteArray × Int × Int × Int × Unit)) (x0 : List (ByteArray × Int × Int × Int × Unit)) : Env := [(0, PV.a (Atom.sl (Ty.cons Ty.str (Ty.cons (Ty.int IntKind.i64) (Ty.cons (Ty.int IntKind.i64) (Ty.cons (Ty.int IntKind.i64) Ty.unit)))) x0)), (3, PV.a (Atom.osl 0 Option.none)), (4, PV.a (Atom.val (Value.int IntKind.i64 v4)))]
def L26_3 (v4 : Int) (h0 : List (ByteArray × Int × Int × Int × Unit)) (x0 : List (ByteArray × Int × Int × Int × Unit)) : Heap := [Option.some (Arr.mk (Ty.cons Ty.str (Ty.cons (Ty.int IntKind.i64) (Ty.cons (Ty.int IntKind.i64) (Ty.cons (Ty.int IntKind.i64) Ty.unit)))) h0 Bool.false Option.none Option.none)]
mutual
def R26 : Nat → List (ByteArray × Int × Int × Int × Unit) → List Dyn → Prop
  | 0, _, _ => False
  | n + 1, x0, ds => ((0 ≤ (↑(List.length x0) : Int)) ∧ ((↑(List.length x0) : Int) ≤ (↑(List.length x0) : Int)) ∧ (40 * (↑(List.length x0) : Int) ≤ 281474976710656) ∧ (R26_3 n (0) (List.replicate (Int.toNat (↑(List.length x0) : Int)) (ByteArray.empty, 0, 0, 0, ())) (x0) ds))
def R26_3 : Nat → Int → List (ByteArray × Int × Int × Int × Unit) → List (ByteArray × Int × Int × Int × Unit) → List Dyn → Prop
  | 0, _, _, _, _ => False
  | n + 1, v4, h0, x0, ds => (if (Decidable.decide (v4 < (↑(List.length x0) : Int))) = true then ((0 ≤ v4) ∧ (v4 < (↑(List.length x0) : Int)) ∧ ((0 ≤ v4) ∧ (v4 < (↑(List.length h0) : Int)) ∧ ((InR IntKind.i64 (v4 + 1)) ∧ (R26_3 n (v4 + 1) (List.set h0 (Int.toNat v4) (Prod.fst (List.getD x0 (Int.toNat v4) (ByteArray.empty, 0, 0, 0, ())), Prod.fst (Prod.snd (List.getD x0 (Int.toNat v4) (ByteArray.empty, 0, 0, 0, ()))), Prod.fst (Prod.snd (Prod.snd (List.getD x0 (Int.toNat v4) (ByteArray.empty, 0, 0, 0, ())))), Prod.fst (Prod.snd (Prod.snd (Prod.snd (List.getD x0 (Int.toNat v4) (ByteArray.empty, 0, 0, 0, ()))))), ())) (x0) ds)))) else (ds = [Dyn.mk (Ty.sl (Ty.cons Ty.str (Ty.cons (Ty.int IntKind.i64) (Ty.cons (Ty.int IntKind.i64) (Ty.cons (Ty.int IntKind.i64) Ty.unit))))) h0]))
end
theorem p26_0 (x0 : List (ByteArray × Int × Int × Int × Unit)) : Am.runN tab ext26 false 23 [] 2000 [] [] [0, 3, 4] [0] [] [.code b26] (entE 0 0 sig26 (x0, ())) (entL sig26 (x0, ())) = some (cutAt b26 3, E26_3 (0) (List.replicate (Int.toNat (↑(List.length x0) : Int)) (ByteArray.empty, 0, 0, 0, ())) (x0), L26_3 (0) (List.replicate (Int.toNat (↑(List.length x0) : Int)) (ByteArray.empty, 0, 0, 0, ())) (x0), [0 ≤ (↑(List.length x0) : Int), (↑(List.length x0) : Int) ≤ (↑(List.length x0) : Int), 40 * (↑(List.length x0) : Int) ≤ 281474976710656]) := by kernel_rfl
theorem p26_1 (v4 : Int) (h0 : List (ByteArray × Int × Int × Int × Unit)) (x0 : List (ByteArray × Int × Int × Int × Unit)) : Am.runN tab ext26 false 23 [] 2000 [] [] [0, 3, 4] [0] [true] (cutAt b26 3) (E26_3 v4 h0 x0) (L26_3 v4 h0 x0) = some (cutAt b26 3, E26_3 (v4 + 1) (List.set h0 (Int.toNat v4) (Prod.fst (List.getD x0 (Int.toNat v4) (ByteArray.empty, 0, 0, 0, ())), Prod.fst (Prod.snd (List.getD x0 (Int.toNat v4) (ByteArray.empty, 0, 0, 0, ()))), Prod.fst (Prod.snd (Prod.snd (List.getD x0 (Int.toNat v4) (ByteArray.empty, 0, 0, 0, ())))), Prod.fst (Prod.snd (Prod.snd (Prod.snd (List.getD x0 (Int.toNat v4) (ByteArray.empty, 0, 0, 0, ()))))), ())) (x0), L26_3 (v4 + 1) (List.set h0 (Int.toNat v4) (Prod.fst (List.getD x0 (Int.toNat v4) (ByteArray.empty, 0, 0, 0, ())), Prod.fst (Prod.snd (List.getD x0 (Int.toNat v4) (ByteArray.empty, 0, 0, 0, ()))), Prod.fst (Prod.snd (Prod.snd (List.getD x0 (Int.toNat v4) (ByteArray.empty, 0, 0, 0, ())))), Prod.fst (Prod.snd (Prod.snd (Prod.snd (List.getD x0 (Int.toNat v4) (ByteArray.empty, 0, 0, 0, ()))))), ())) (x0), [Decidable.decide (v4 < (↑(List.length x0) : Int)) = Bool.true, 0 ≤ v4, v4 < (↑(List.length x0) : Int), True, 0 ≤ v4, v4 < (↑(List.length h0) : Int), InR IntKind.i64 (v4 + 1)]) := by kernel_rfl
theorem p26_2 (v4 : Int) (h0 : List (ByteArray × Int × Int × Int × Unit)) (x0 : List (ByteArray × Int × Int × Int × Unit)) : runF tab ext26 false 23 [] 2000 [] oks26 kds26 tys26 Try.f26.results [false] (cutAt b26 3) (E26_3 v4 h0 x0) (L26_3 v4 h0 x0) = some ([Dyn.mk (Ty.sl (Ty.cons Ty.str (Ty.cons (Ty.int IntKind.i64) (Ty.cons (Ty.int IntKind.i64) (Ty.cons (Ty.int IntKind.i64) Ty.unit))))) h0], [], [Decidable.decide (v4 < (↑(List.length x0) : Int)) = Bool.false]) := by kernel_rfl
theorem snd26 : ∀ n, (∀ (x0 : List (ByteArray × Int × Int × Int × Unit)) ds, R26 n x0 ds → ∀ K q, AtV Try.prog 26 (PostR kds26 oks26 ds [] [] q K) 23 K q [] [.code b26] (entE 0 0 sig26 (x0, ())) (entL sig26 (x0, ()))) ∧ (∀ (v4 : Int) (h0 : List (ByteArray × Int × Int × Int × Unit)) (x0 : List (ByteArray × Int × Int × Int × Unit)) ds, R26_3 n v4 h0 x0 ds → ∀ K q, AtV Try.prog 26 (PostR kds26 oks26 ds [] [] q K) 23 K q [] (cutAt b26 3) (E26_3 v4 h0 x0) (L26_3 v4 h0 x0)) := by
  intro n
  induction n with
  | zero => exact ⟨fun _ _ h => by simp only [R26] at h, fun _ _ _ _ h => by simp only [R26_3] at h⟩
  | succ n ih =>
  obtain ⟨ih, ih3⟩ := ih
  refine ⟨?_, ?_⟩
  · intro x0 ds h K q
    rw [R26] at h
    obtain ⟨s0, s1, s2, h⟩ := h
    exact AtV.runN tabOk ext26Ok mixed (p26_0 x0) ⟨s0, s1, s2, trivial⟩ (ih3 _ _ _ _ h K q)

  · intro v4 h0 x0 ds h K q
    rw [R26_3] at h
    by_cases b0 : (Decidable.decide (v4 < (↑(List.length x0) : Int))) = true
    · rw [if_pos b0] at h
      obtain ⟨s0, s1, h⟩ := h
      obtain ⟨s2, s3, h⟩ := h
      obtain ⟨s4, h⟩ := h
      exact AtV.runN tabOk ext26Ok mixed (p26_1 v4 h0 x0) ⟨b0, s0, s1, trivial, s2, s3, s4, trivial⟩ (ih3 _ _ _ _ h K q)
    · rw [if_neg b0] at h
      replace b0 := Bool.eq_false_iff.2 b0
      subst h
      exact AtV.fin Try.func26 tabOk ext26Ok mixed (p26_2 v4 h0 x0) ⟨b0, trivial⟩



theorem run26 (x0 : List (ByteArray × Int × Int × Int × Unit)) (hm : x0.length ≤ maxLen) : ∀ (k i : Nat), i + k = x0.length →
    R26_3 (k + 1) (i : Int) (x0.take i ++ List.replicate k (ByteArray.empty, (0 : Int), (0 : Int), (0 : Int), ())) x0 [⟨.sl (.cons .str (.cons (.int .i64) (.cons (.int .i64) (.cons (.int .i64) .unit)))), x0⟩] := by
  intro k
  induction k with
  | zero =>
    intro i hi
    rw [R26_3, if_neg (by simp; omega), List.take_of_length_le (by omega)]
    simp
  | succ k ih =>
    intro i hi
    rw [R26_3, if_pos (by simp; omega)]
    simp only [Int.toNat_natCast]
    refine ⟨by omega, by omega, by omega, by simp; omega, inR_up hm (by omega), ?_⟩
    have hs := set_step x0 (ByteArray.empty, (0 : Int), (0 : Int), (0 : Int), ()) i (by omega) (k + 1) (by omega)
    have he : ∀ y : (ByteArray × Int × Int × Int × Unit), (y.1, y.2.1, y.2.2.1, y.2.2.2.1, ()) = y := fun _ => rfl
    rw [he, hs]
    exact ih (i + 1) (by omega)

def g26_0 (x0 : List (ByteArray × Int × Int × Int × Unit)) : List (ByteArray × Int × Int × Int × Unit) := x0
def P26 (x0 : List (ByteArray × Int × Int × Int × Unit)) : Prop := 40 * (x0.length : Int) ≤ 281474976710656
def S26 : Am.Spec := { sig := sig26, pre := fun ⟨x0, _⟩ => P26 x0, res := fun ⟨x0, _⟩ => [⟨.sl (.cons .str (.cons (.int .i64) (.cons (.int .i64) (.cons (.int .i64) .unit)))), g26_0 x0⟩] }
theorem con26 : Contract Try.prog 26 S26 := contract_of Try.func26 hb26 (Nat.le_of_ble_eq_true (by kernel_rfl)) (fun ⟨x0, _⟩ h hwf K q => by
  refine (snd26 (x0.length + 2)).1 x0 _ ?_ K q
  show R26 (x0.length + 1 + 1) x0 [⟨.sl (.cons .str (.cons (.int .i64) (.cons (.int .i64) (.cons (.int .i64) .unit)))), x0⟩]
  rw [R26]
  refine ⟨by omega, by omega, h, ?_⟩
  have := run26 x0 hwf.1.1 x0.length 0 (by omega)
  simpa using this)

end Go.Proofs.Ytpcfcplggpchjaa

/- Function 60 (laws.toTest): its runs between cut points. Written by a program of this repo (gen). -/
set_option linter.unusedVariables false
set_option linter.unusedSimpArgs false
set_option maxRecDepth 100000
namespace Go.Proofs.Ytpcfcplggpchjaa
open Go Go.Am Go.Proofs
def ext60 : Ext := []
theorem ext60Ok : ExtOk Try.prog ext60 := trivial

noncomputable def b60 : Code := bodyOf Try.f60
theorem hb60 : Try.f60.body = some b60 := by kernel_rfl
def sig60 : List AT := [AT.v (Ty.cons (Ty.int IntKind.i64) (Ty.cons (Ty.int IntKind.i64) (Ty.cons (Ty.int IntKind.i64) Ty.unit)))]
def tys60 : List Ty := [Ty.cons (Ty.int IntKind.i64) (Ty.cons (Ty.int IntKind.i64) (Ty.cons (Ty.int IntKind.i64) Ty.unit))]
def kds60 : List RK := []
def oks60 : List AT := owns sig60
def P60 (x0 : Int × Int × Int × Unit) : Prop := True
def g60_0 (x0 : Int × Int × Int × Unit) : Int × Int × Int × Unit := (Prod.fst x0, Prod.fst (Prod.snd x0), Prod.fst (Prod.snd (Prod.snd x0)), ())
theorem p60_0 (x0 : Int × Int × Int × Unit) : runF tab ext60 false 14 [] 2000 [] oks60 kds60 tys60 Try.f60.results [] [.code b60] (entE 0 0 sig60 (x0, ())) (entL sig60 (x0, ())) = some ([Dyn.mk (Ty.cons (Ty.int IntKind.i64) (Ty.cons (Ty.int IntKind.i64) (Ty.cons (Ty.int IntKind.i64) Ty.unit))) (Prod.fst x0, Prod.fst (Prod.snd x0), Prod.fst (Prod.snd (Prod.snd x0)), ())], [], []) := by kernel_rfl
theorem at60 (x0 : Int × Int × Int × Unit) (h : P60 x0) (K : Ctx) (q : Nat → Value) : AtV Try.prog 60 (PostR kds60 oks60 [⟨Ty.cons (Ty.int IntKind.i64) (Ty.cons (Ty.int IntKind.i64) (Ty.cons (Ty.int IntKind.i64) Ty.unit)), g60_0 x0⟩] [] [] q K) 14 K q [] [.code b60] (entE 0 0 sig60 (x0, ())) (entL sig60 (x0, ())) := by
  unfold P60 at h
  unfold g60_0
  exact AtV.fin Try.func60 tabOk ext60Ok mixed (p60_0 x0) trivial

def S60 : Am.Spec := { sig := sig60, pre := fun ⟨x0, _⟩ => P60 x0, res := fun ⟨x0, _⟩ => [⟨Ty.cons (Ty.int IntKind.i64) (Ty.cons (Ty.int IntKind.i64) (Ty.cons (Ty.int IntKind.i64) Ty.unit)), g60_0 x0⟩], kds := kds60 }
theorem con60 : Contract Try.prog 60 S60 := contract_of Try.func60 hb60 (Nat.le_of_ble_eq_true (by kernel_rfl)) (fun ⟨x0, _⟩ h _ K q => at60 x0 h K q)


end Go.Proofs.Ytpcfcplggpchjaa

/- Function 27 (laws.toTestS): its runs between cut points. Written by a program of this repo (gen). -/
set_option linter.unusedVariables false
set_option linter.unusedSimpArgs false
set_option maxRecDepth 100000
namespace Go.Proofs.Ytpcfcplggpchjaa
open Go Go.Am Go.Proofs
def ext27 : Ext := [(60, S60)]
theorem call27_60 : Callable Try.prog 60 := ⟨Try.f60, Try.func60, by kernel_rfl, by kernel_rfl⟩
theorem ext27Ok : ExtOk Try.prog ext27 := ⟨⟨call27_60, con60⟩, trivial⟩

noncomputable def b27 : Code := bodyOf Try.f27
theorem hb27 : Try.f27.body = some b27 := by kernel_rfl
def sig27 : List AT := [AT.v (Ty.sl (Ty.cons (Ty.int IntKind.i64) (Ty.cons (Ty.int IntKind.i64) (Ty.cons (Ty.int IntKind.i64) Ty.unit))))]
def tys27 : List Ty := [Ty.sl (Ty.cons (Ty.int IntKind.i64) (Ty.cons (Ty.int IntKind.i64) (Ty.cons (Ty.int IntKind.i64) Ty.unit)))]
def kds27 : List RK := []
def oks27 : List AT := owns sig27
def E27_3 (v4 : Int) (h0 : List (Int × Int × Int × Unit)) (x0 : List (Int × Int × Int × Unit)) : Env := [(0, PV.a (Atom.sl (Ty.cons (Ty.int IntKind.i64) (Ty.cons (Ty.int IntKind.i64) (Ty.cons (Ty.int IntKind.i64) Ty.unit))) x0)), (3, PV.a (Atom.osl 0 Option.none)), (4, PV.a (Atom.val (Value.int IntKind.i64 v4)))]
def L27_3 (v4 : Int) (h0 : List (Int × Int × Int × Unit)) (x0 : List (Int × Int × Int × Unit)) : Heap := [Option.some (Arr.mk (Ty.cons (Ty.int IntKind.i64) (Ty.cons (Ty.int IntKind.i64) (Ty.cons (Ty.int IntKind.i64) Ty.unit))) h0 Bool.false Option.none Option.none)]
mutual
def R27 : Nat → List (Int × Int × Int × Unit) → List Dyn → Prop
  | 0, _, _ => False
  | n + 1, x0, ds => ((0 ≤ (↑(List.length x0) : Int)) ∧ ((↑(List.length x0) : Int) ≤ (↑(List.length x0) : Int)) ∧ (24 * (↑(List.length x0) : Int) ≤ 281474976710656) ∧ (R27_3 n (0) (List.replicate (Int.toNat (↑(List.length x0) : Int)) (0, 0, 0, ())) (x0) ds))
def R27_3 : Nat → Int → List (Int × Int × Int × Unit) → List (Int × Int × Int × Unit) → List Dyn → Prop
  | 0, _, _, _, _ => False
  | n + 1, v4, h0, x0, ds => (if (Decidable.decide (v4 < (↑(List.length x0) : Int))) = true then ((0 ≤ v4) ∧ (v4 < (↑(List.length x0) : Int)) ∧ ((0 ≤ v4) ∧ (v4 < (↑(List.length h0) : Int)) ∧ ((InR IntKind.i64 (v4 + 1)) ∧ (R27_3 n (v4 + 1) (List.set h0 (Int.toNat v4) (Prod.fst (List.getD x0 (Int.toNat v4) (0, 0, 0, ())), Prod.fst (Prod.snd (List.getD x0 (Int.toNat v4) (0, 0, 0, ()))), Prod.fst (Prod.snd (Prod.snd (List.getD x0 (Int.toNat v4) (0, 0, 0, ())))), ())) (x0) ds)))) else (ds = [Dyn.mk (Ty.sl (Ty.cons (Ty.int IntKind.i64) (Ty.cons (Ty.int IntKind.i64) (Ty.cons (Ty.int IntKind.i64) Ty.unit)))) h0]))
end
theorem p27_0 (x0 : List (Int × Int × Int × Unit)) : Am.runN tab ext27 false 23 [] 2000 [] [] [0, 3, 4] [0] [] [.code b27] (entE 0 0 sig27 (x0, ())) (entL sig27 (x0, ())) = some (cutAt b27 3, E27_3 (0) (List.replicate (Int.toNat (↑(List.length x0) : Int)) (0, 0, 0, ())) (x0), L27_3 (0) (List.replicate (Int.toNat (↑(List.length x0) : Int)) (0, 0, 0, ())) (x0), [0 ≤ (↑(List.length x0) : Int), (↑(List.length x0) : Int) ≤ (↑(List.length x0) : Int), 24 * (↑(List.length x0) : Int) ≤ 281474976710656]) := by kernel_rfl
theorem p27_1 (v4 : Int) (h0 : List (Int × Int × Int × Unit)) (x0 : List (Int × Int × Int × Unit)) : Am.runN tab ext27 false 23 [] 2000 [] [] [0, 3, 4] [0] [true] (cutAt b27 3) (E27_3 v4 h0 x0) (L27_3 v4 h0 x0) = some (cutAt b27 3, E27_3 (v4 + 1) (List.set h0 (Int.toNat v4) (Prod.fst (List.getD x0 (Int.toNat v4) (0, 0, 0, ())), Prod.fst (Prod.snd (List.getD x0 (Int.toNat v4) (0, 0, 0, ()))), Prod.fst (Prod.snd (Prod.snd (List.getD x0 (Int.toNat v4) (0, 0, 0, ())))), ())) (x0), L27_3 (v4 + 1) (List.set h0 (Int.toNat v4) (Prod.fst (List.getD x0 (Int.toNat v4) (0, 0, 0, ())), Prod.fst (Prod.snd (List.getD x0 (Int.toNat v4) (0, 0, 0, ()))), Prod.fst (Prod.snd (Prod.snd (List.getD x0 (Int.toNat v4) (0, 0, 0, ())))), ())) (x0), [Decidable.decide (v4 < (↑(List.length x0) : Int)) = Bool.true, 0 ≤ v4, v4 < (↑(List.length x0) : Int), True, 0 ≤ v4, v4 < (↑(List.length h0) : Int), InR IntKind.i64 (v4 + 1)]) := by kernel_rfl
theorem p27_2 (v4 : Int) (h0 : List (Int × Int × Int × Unit)) (x0 : List (Int × Int × Int × Unit)) : runF tab ext27 false 23 [] 2000 [] oks27 kds27 tys27 Try.f27.results [false] (cutAt b27 3) (E27_3 v4 h0 x0) (L27_3 v4 h0 x0) = some ([Dyn.mk (Ty.sl (Ty.cons (Ty.int IntKind.i64) (Ty.cons (Ty.int IntKind.i64) (Ty.cons (Ty.int IntKind.i64) Ty.unit)))) h0], [], [Decidable.decide (v4 < (↑(List.length x0) : Int)) = Bool.false]) := by kernel_rfl
theorem snd27 : ∀ n, (∀ (x0 : List (Int × Int × Int × Unit)) ds, R27 n x0 ds → ∀ K q, AtV Try.prog 27 (PostR kds27 oks27 ds [] [] q K) 23 K q [] [.code b27] (entE 0 0 sig27 (x0, ())) (entL sig27 (x0, ()))) ∧ (∀ (v4 : Int) (h0 : List (Int × Int × Int × Unit)) (x0 : List (Int × Int × Int × Unit)) ds, R27_3 n v4 h0 x0 ds → ∀ K q, AtV Try.prog 27 (PostR kds27 oks27 ds [] [] q K) 23 K q [] (cutAt b27 3) (E27_3 v4 h0 x0) (L27_3 v4 h0 x0)) := by
  intro n
  induction n with
  | zero => exact ⟨fun _ _ h => by simp only [R27] at h, fun _ _ _ _ h => by simp only [R27_3] at h⟩
  | succ n ih =>
  obtain ⟨ih, ih3⟩ := ih
  refine ⟨?_, ?_⟩
  · intro x0 ds h K q
    rw [R27] at h
    obtain ⟨s0, s1, s2, h⟩ := h
    exact AtV.runN tabOk ext27Ok mixed (p27_0 x0) ⟨s0, s1, s2, trivial⟩ (ih3 _ _ _ _ h K q)

  · intro v4 h0 x0 ds h K q
    rw [R27_3] at h
    by_cases b0 : (Decidable.decide (v4 < (↑(List.length x0) : Int))) = true
    · rw [if_pos b0] at h
      obtain ⟨s0, s1, h⟩ := h
      obtain ⟨s2, s3, h⟩ := h
      obtain ⟨s4, h⟩ := h
      exact AtV.runN tabOk ext27Ok mixed (p27_1 v4 h0 x0) ⟨b0, s0, s1, trivial, s2, s3, s4, trivial⟩ (ih3 _ _ _ _ h K q)
    · rw [if_neg b0] at h
      replace b0 := Bool.eq_false_iff.2 b0
      subst h
      exact AtV.fin Try.func27 tabOk ext27Ok mixed (p27_2 v4 h0 x0) ⟨b0, trivial⟩



theorem run27 (x0 : List (Int × Int × Int × Unit)) (hm : x0.length ≤ maxLen) : ∀ (k i : Nat), i + k = x0.length →
    R27_3 (k + 1) (i : Int) (x0.take i ++ List.replicate k ((0 : Int), (0 : Int), (0 : Int), ())) x0 [⟨.sl (.cons (.int .i64) (.cons (.int .i64) (.cons (.int .i64) .unit))), x0⟩] := by
  intro k
  induction k with
  | zero =>
    intro i hi
    rw [R27_3, if_neg (by simp; omega), List.take_of_length_le (by omega)]
    simp
  | succ k ih =>
    intro i hi
    rw [R27_3, if_pos (by simp; omega)]
    simp only [Int.toNat_natCast]
    refine ⟨by omega, by omega, by omega, by simp; omega, inR_up hm (by omega), ?_⟩
    have hs := set_step x0 ((0 : Int), (0 : Int), (0 : Int), ()) i (by omega) (k + 1) (by omega)
    have he : ∀ y : (Int × Int × Int × Unit), (y.1, y.2.1, y.2.2.1, ()) = y := fun _ => rfl
    rw [he, hs]
    exact ih (i + 1) (by omega)

def g27_0 (x0 : List (Int × Int × Int × Unit)) : List (Int × Int × Int × Unit) := x0
def P27 (x0 : List (Int × Int × Int × Unit)) : Prop := 24 * (x0.length : Int) ≤ 281474976710656
def S27 : Am.Spec := { sig := sig27, pre := fun ⟨x0, _⟩ => P27 x0, res := fun ⟨x0, _⟩ => [⟨.sl (.cons (.int .i64) (.cons (.int .i64) (.cons (.int .i64) .unit))), g27_0 x0⟩] }
theorem con27 : Contract Try.prog 27 S27 := contract_of Try.func27 hb27 (Nat.le_of_ble_eq_true (by kernel_rfl)) (fun ⟨x0, _⟩ h hwf K q => by
  refine (snd27 (x0.length + 2)).1 x0 _ ?_ K q
  show R27 (x0.length + 1 + 1) x0 [⟨.sl (.cons (.int .i64) (.cons (.int .i64) (.cons (.int .i64) .unit))), x0⟩]
  rw [R27]
  refine ⟨by omega, by omega, h, ?_⟩
  have := run27 x0 hwf.1.1 x0.length 0 (by omega)
  simpa using this)

end Go.Proofs.Ytpcfcplggpchjaa

/- Function 61 (laws.toHelper): its runs between cut points. Written by a program of this repo (gen). -/
set_option linter.unusedVariables false
set_option linter.unusedSimpArgs false
set_option maxRecDepth 100000
namespace Go.Proofs.Ytpcfcplggpchjaa
open Go Go.Am Go.Proofs
def ext61 : Ext := []
theorem ext61Ok : ExtOk Try.prog ext61 := trivial

noncomputable def b61 : Code := bodyOf Try.f61
theorem hb61 : Try.f61.body = some b61 := by kernel_rfl
def sig61 : List AT := [AT.v (Ty.cons Ty.str (Ty.cons (Ty.int IntKind.i64) (Ty.cons (Ty.int IntKind.i64) Ty.unit)))]
def tys61 : List Ty := [Ty.cons Ty.str (Ty.cons (Ty.int IntKind.i64) (Ty.cons (Ty.int IntKind.i64) Ty.unit))]
def kds61 : List RK := []
def oks61 : List AT := owns sig61
def P61 (x0 : ByteArray × Int × Int × Unit) : Prop := True
def g61_0 (x0 : ByteArray × Int × Int × Unit) : ByteArray × Int × Int × Unit := (Prod.fst x0, Prod.fst (Prod.snd x0), Prod.fst (Prod.snd (Prod.snd x0)), ())
theorem p61_0 (x0 : ByteArray × Int × Int × Unit) : runF tab ext61 false 14 [] 2000 [] oks61 kds61 tys61 Try.f61.results [] [.code b61] (entE 0 0 sig61 (x0, ())) (entL sig61 (x0, ())) = some ([Dyn.mk (Ty.cons Ty.str (Ty.cons (Ty.int IntKind.i64) (Ty.cons (Ty.int IntKind.i64) Ty.unit))) (Prod.fst x0, Prod.fst (Prod.snd x0), Prod.fst (Prod.snd (Prod.snd x0)), ())], [], []) := by kernel_rfl
theorem at61 (x0 : ByteArray × Int × Int × Unit) (h : P61 x0) (K : Ctx) (q : Nat → Value) : AtV Try.prog 61 (PostR kds61 oks61 [⟨Ty.cons Ty.str (Ty.cons (Ty.int IntKind.i64) (Ty.cons (Ty.int IntKind.i64) Ty.unit)), g61_0 x0⟩] [] [] q K) 14 K q [] [.code b61] (entE 0 0 sig61 (x0, ())) (entL sig61 (x0, ())) := by
  unfold P61 at h
  unfold g61_0
  exact AtV.fin Try.func61 tabOk ext61Ok mixed (p61_0 x0) trivial

def S61 : Am.Spec := { sig := sig61, pre := fun ⟨x0, _⟩ => P61 x0, res := fun ⟨x0, _⟩ => [⟨Ty.cons Ty.str (Ty.cons (Ty.int IntKind.i64) (Ty.cons (Ty.int IntKind.i64) Ty.unit)), g61_0 x0⟩], kds := kds61 }
theorem con61 : Contract Try.prog 61 S61 := contract_of Try.func61 hb61 (Nat.le_of_ble_eq_true (by kernel_rfl)) (fun ⟨x0, _⟩ h _ K q => at61 x0 h K q)


end Go.Proofs.Ytpcfcplggpchjaa

/- Function 28 (laws.toHelperS): its runs between cut points. Written by a program of this repo (gen). -/
set_option linter.unusedVariables false
set_option linter.unusedSimpArgs false
set_option maxRecDepth 100000
namespace Go.Proofs.Ytpcfcplggpchjaa
open Go Go.Am Go.Proofs
def ext28 : Ext := [(61, S61)]
theorem call28_61 : Callable Try.prog 61 := ⟨Try.f61, Try.func61, by kernel_rfl, by kernel_rfl⟩
theorem ext28Ok : ExtOk Try.prog ext28 := ⟨⟨call28_61, con61⟩, trivial⟩

noncomputable def b28 : Code := bodyOf Try.f28
theorem hb28 : Try.f28.body = some b28 := by kernel_rfl
def sig28 : List AT := [AT.v (Ty.sl (Ty.cons Ty.str (Ty.cons (Ty.int IntKind.i64) (Ty.cons (Ty.int IntKind.i64) Ty.unit))))]
def tys28 : List Ty := [Ty.sl (Ty.cons Ty.str (Ty.cons (Ty.int IntKind.i64) (Ty.cons (Ty.int IntKind.i64) Ty.unit)))]
def kds28 : List RK := []
def oks28 : List AT := owns sig28
def E28_3 (v4 : Int) (h0 : List (ByteArray × Int × Int × Unit)) (x0 : List (ByteArray × Int × Int × Unit)) : Env := [(0, PV.a (Atom.sl (Ty.cons Ty.str (Ty.cons (Ty.int IntKind.i64) (Ty.cons (Ty.int IntKind.i64) Ty.unit))) x0)), (3, PV.a (Atom.osl 0 Option.none)), (4, PV.a (Atom.val (Value.int IntKind.i64 v4)))]
def L28_3 (v4 : Int) (h0 : List (ByteArray × Int × Int × Unit)) (x0 : List (ByteArray × Int × Int × Unit)) : Heap := [Option.some (Arr.mk (Ty.cons Ty.str (Ty.cons (Ty.int IntKind.i64) (Ty.cons (Ty.int IntKind.i64) Ty.unit))) h0 Bool.false Option.none Option.none)]
mutual
def R28 : Nat → List (ByteArray × Int × Int × Unit) → List Dyn → Prop
  | 0, _, _ => False
  | n + 1, x0, ds => ((0 ≤ (↑(List.length x0) : Int)) ∧ ((↑(List.length x0) : Int) ≤ (↑(List.length x0) : Int)) ∧ (32 * (↑(List.length x0) : Int) ≤ 281474976710656) ∧ (R28_3 n (0) (List.replicate (Int.toNat (↑(List.length x0) : Int)) (ByteArray.empty, 0, 0, ())) (x0) ds))
def R28_3 : Nat → Int → List (ByteArray × Int × Int × Unit) → List (ByteArray × Int × Int × Unit) → List Dyn → Prop
  | 0, _, _, _, _ => False
  | n + 1, v4, h0, x0, ds => (if (Decidable.decide (v4 < (↑(List.length x0) : Int))) = true then ((0 ≤ v4) ∧ (v4 < (↑(List.length x0) : Int)) ∧ ((0 ≤ v4) ∧ (v4 < (↑(List.length h0) : Int)) ∧ ((InR IntKind.i64 (v4 + 1)) ∧ (R28_3 n (v4 + 1) (List.set h0 (Int.toNat v4) (Prod.fst (List.getD x0 (Int.toNat v4) (ByteArray.empty, 0, 0, ())), Prod.fst (Prod.snd (List.getD x0 (Int.toNat v4) (ByteArray.empty, 0, 0, ()))), Prod.fst (Prod.snd (Prod.snd (List.getD x0 (Int.toNat v4) (ByteArray.empty, 0, 0, ())))), ())) (x0) ds)))) else (ds = [Dyn.mk (Ty.sl (Ty.cons Ty.str (Ty.cons (Ty.int IntKind.i64) (Ty.cons (Ty.int IntKind.i64) Ty.unit)))) h0]))
end
theorem p28_0 (x0 : List (ByteArray × Int × Int × Unit)) : Am.runN tab ext28 false 23 [] 2000 [] [] [0, 3, 4] [0] [] [.code b28] (entE 0 0 sig28 (x0, ())) (entL sig28 (x0, ())) = some (cutAt b28 3, E28_3 (0) (List.replicate (Int.toNat (↑(List.length x0) : Int)) (ByteArray.empty, 0, 0, ())) (x0), L28_3 (0) (List.replicate (Int.toNat (↑(List.length x0) : Int)) (ByteArray.empty, 0, 0, ())) (x0), [0 ≤ (↑(List.length x0) : Int), (↑(List.length x0) : Int) ≤ (↑(List.length x0) : Int), 32 * (↑(List.length x0) : Int) ≤ 281474976710656]) := by kernel_rfl
theorem p28_1 (v4 : Int) (h0 : List (ByteArray × Int × Int × Unit)) (x0 : List (ByteArray × Int × Int × Unit)) : Am.runN tab ext28 false 23 [] 2000 [] [] [0, 3, 4] [0] [true] (cutAt b28 3) (E28_3 v4 h0 x0) (L28_3 v4 h0 x0) = some (cutAt b28 3, E28_3 (v4 + 1) (List.set h0 (Int.toNat v4) (Prod.fst (List.getD x0 (Int.toNat v4) (ByteArray.empty, 0, 0, ())), Prod.fst (Prod.snd (List.getD x0 (Int.toNat v4) (ByteArray.empty, 0, 0, ()))), Prod.fst (Prod.snd (Prod.snd (List.getD x0 (Int.toNat v4) (ByteArray.empty, 0, 0, ())))), ())) (x0), L28_3 (v4 + 1) (List.set h0 (Int.toNat v4) (Prod.fst (List.getD x0 (Int.toNat v4) (ByteArray.empty, 0, 0, ())), Prod.fst (Prod.snd (List.getD x0 (Int.toNat v4) (ByteArray.empty, 0, 0, ()))), Prod.fst (Prod.snd (Prod.snd (List.getD x0 (Int.toNat v4) (ByteArray.empty, 0, 0, ())))), ())) (x0), [Decidable.decide (v4 < (↑(List.length x0) : Int)) = Bool.true, 0 ≤ v4, v4 < (↑(List.length x0) : Int), True, 0 ≤ v4, v4 < (↑(List.length h0) : Int), InR IntKind.i64 (v4 + 1)]) := by kernel_rfl
theorem p28_2 (v4 : Int) (h0 : List (ByteArray × Int × Int × Unit)) (x0 : List (ByteArray × Int × Int × Unit)) : runF tab ext28 false 23 [] 2000 [] oks28 kds28 tys28 Try.f28.results [false] (cutAt b28 3) (E28_3 v4 h0 x0) (L28_3 v4 h0 x0) = some ([Dyn.mk (Ty.sl (Ty.cons Ty.str (Ty.cons (Ty.int IntKind.i64) (Ty.cons (Ty.int IntKind.i64) Ty.unit)))) h0], [], [Decidable.decide (v4 < (↑(List.length x0) : Int)) = Bool.false]) := by kernel_rfl
theorem snd28 : ∀ n, (∀ (x0 : List (ByteArray × Int × Int × Unit)) ds, R28 n x0 ds → ∀ K q, AtV Try.prog 28 (PostR kds28 oks28 ds [] [] q K) 23 K q [] [.code b28] (entE 0 0 sig28 (x0, ())) (entL sig28 (x0, ()))) ∧ (∀ (v4 : Int) (h0 : List (ByteArray × Int × Int × Unit)) (x0 : List (ByteArray × Int × Int × Unit)) ds, R28_3 n v4 h0 x0 ds → ∀ K q, AtV Try.prog 28 (PostR kds28 oks28 ds [] [] q K) 23 K q [] (cutAt b28 3) (E28_3 v4 h0 x0) (L28_3 v4 h0 x0)) := by
  intro n
  induction n with
  | zero => exact ⟨fun _ _ h => by simp only [R28] at h, fun _ _ _ _ h => by simp only [R28_3] at h⟩
  | succ n ih =>
  obtain ⟨ih, ih3⟩ := ih
  refine ⟨?_, ?_⟩
  · intro x0 ds h K q
    rw [R28] at h
    obtain ⟨s0, s1, s2, h⟩ := h
    exact AtV.runN tabOk ext28Ok mixed (p28_0 x0) ⟨s0, s1, s2, trivial⟩ (ih3 _ _ _ _ h K q)

  · intro v4 h0 x0 ds h K q
    rw [R28_3] at h
    by_cases b0 : (Decidable.decide (v4 < (↑(List.length x0) : Int))) = true
    · rw [if_pos b0] at h
      obtain ⟨s0, s1, h⟩ := h
      obtain ⟨s2, s3, h⟩ := h
      obtain ⟨s4, h⟩ := h
      exact AtV.runN tabOk ext28Ok mixed (p28_1 v4 h0 x0) ⟨b0, s0, s1, trivial, s2, s3, s4, trivial⟩ (ih3 _ _ _ _ h K q)
    · rw [if_neg b0] at h
      replace b0 := Bool.eq_false_iff.2 b0
      subst h
      exact AtV.fin Try.func28 tabOk ext28Ok mixed (p28_2 v4 h0 x0) ⟨b0, trivial⟩



theorem run28 (x0 : List (ByteArray × Int × Int × Unit)) (hm : x0.length ≤ maxLen) : ∀ (k i : Nat), i + k = x0.length →
    R28_3 (k + 1) (i : Int) (x0.take i ++ List.replicate k (ByteArray.empty, (0 : Int), (0 : Int), ())) x0 [⟨.sl (.cons .str (.cons (.int .i64) (.cons (.int .i64) .unit))), x0⟩] := by
  intro k
  induction k with
  | zero =>
    intro i hi
    rw [R28_3, if_neg (by simp; omega), List.take_of_length_le (by omega)]
    simp
  | succ k ih =>
    intro i hi
    rw [R28_3, if_pos (by simp; omega)]
    simp only [Int.toNat_natCast]
    refine ⟨by omega, by omega, by omega, by simp; omega, inR_up hm (by omega), ?_⟩
    have hs := set_step x0 (ByteArray.empty, (0 : Int), (0 : Int), ()) i (by omega) (k + 1) (by omega)
    have he : ∀ y : (ByteArray × Int × Int × Unit), (y.1, y.2.1, y.2.2.1, ()) = y := fun _ => rfl
    rw [he, hs]
    exact ih (i + 1) (by omega)

def g28_0 (x0 : List (ByteArray × Int × Int × Unit)) : List (ByteArray × Int × Int × Unit) := x0
def P28 (x0 : List (ByteArray × Int × Int × Unit)) : Prop := 32 * (x0.length : Int) ≤ 281474976710656
def S28 : Am.Spec := { sig := sig28, pre := fun ⟨x0, _⟩ => P28 x0, res := fun ⟨x0, _⟩ => [⟨.sl (.cons .str (.cons (.int .i64) (.cons (.int .i64) .unit))), g28_0 x0⟩] }
theorem con28 : Contract Try.prog 28 S28 := contract_of Try.func28 hb28 (Nat.le_of_ble_eq_true (by kernel_rfl)) (fun ⟨x0, _⟩ h hwf K q => by
  refine (snd28 (x0.length + 2)).1 x0 _ ?_ K q
  show R28 (x0.length + 1 + 1) x0 [⟨.sl (.cons .str (.cons (.int .i64) (.cons (.int .i64) .unit))), x0⟩]
  rw [R28]
  refine ⟨by omega, by omega, h, ?_⟩
  have := run28 x0 hwf.1.1 x0.length 0 (by omega)
  simpa using this)

end Go.Proofs.Ytpcfcplggpchjaa

/- Function 62 (laws.toTask): its runs between cut points. Written by a program of this repo (gen). -/
set_option linter.unusedVariables false
set_option linter.unusedSimpArgs false
set_option maxRecDepth 100000
namespace Go.Proofs.Ytpcfcplggpchjaa
open Go Go.Am Go.Proofs
def ext62 : Ext := []
theorem ext62Ok : ExtOk Try.prog ext62 := trivial

noncomputable def b62 : Code := bodyOf Try.f62
theorem hb62 : Try.f62.body = some b62 := by kernel_rfl
def sig62 : List AT := [AT.v (Ty.cons Ty.str (Ty.cons (Ty.int IntKind.i64) (Ty.cons (Ty.int IntKind.i64) Ty.unit)))]
def tys62 : List Ty := [Ty.cons Ty.str (Ty.cons (Ty.int IntKind.i64) (Ty.cons (Ty.int IntKind.i64) Ty.unit))]
def kds62 : List RK := []
def oks62 : List AT := owns sig62
def P62 (x0 : ByteArray × Int × Int × Unit) : Prop := True
def g62_0 (x0 : ByteArray × Int × Int × Unit) : ByteArray × Int × Int × Unit := (Prod.fst x0, Prod.fst (Prod.snd x0), Prod.fst (Prod.snd (Prod.snd x0)), ())
theorem p62_0 (x0 : ByteArray × Int × Int × Unit) : runF tab ext62 false 14 [] 2000 [] oks62 kds62 tys62 Try.f62.results [] [.code b62] (entE 0 0 sig62 (x0, ())) (entL sig62 (x0, ())) = some ([Dyn.mk (Ty.cons Ty.str (Ty.cons (Ty.int IntKind.i64) (Ty.cons (Ty.int IntKind.i64) Ty.unit))) (Prod.fst x0, Prod.fst (Prod.snd x0), Prod.fst (Prod.snd (Prod.snd x0)), ())], [], []) := by kernel_rfl
theorem at62 (x0 : ByteArray × Int × Int × Unit) (h : P62 x0) (K : Ctx) (q : Nat → Value) : AtV Try.prog 62 (PostR kds62 oks62 [⟨Ty.cons Ty.str (Ty.cons (Ty.int IntKind.i64) (Ty.cons (Ty.int IntKind.i64) Ty.unit)), g62_0 x0⟩] [] [] q K) 14 K q [] [.code b62] (entE 0 0 sig62 (x0, ())) (entL sig62 (x0, ())) := by
  unfold P62 at h
  unfold g62_0
  exact AtV.fin Try.func62 tabOk ext62Ok mixed (p62_0 x0) trivial

def S62 : Am.Spec := { sig := sig62, pre := fun ⟨x0, _⟩ => P62 x0, res := fun ⟨x0, _⟩ => [⟨Ty.cons Ty.str (Ty.cons (Ty.int IntKind.i64) (Ty.cons (Ty.int IntKind.i64) Ty.unit)), g62_0 x0⟩], kds := kds62 }
theorem con62 : Contract Try.prog 62 S62 := contract_of Try.func62 hb62 (Nat.le_of_ble_eq_true (by kernel_rfl)) (fun ⟨x0, _⟩ h _ K q => at62 x0 h K q)


end Go.Proofs.Ytpcfcplggpchjaa

/- Function 29 (laws.toTaskS): its runs between cut points. Written by a program of this repo (gen). -/
set_option linter.unusedVariables false
set_option linter.unusedSimpArgs false
set_option maxRecDepth 100000
namespace Go.Proofs.Ytpcfcplggpchjaa
open Go Go.Am Go.Proofs
def ext29 : Ext := [(62, S62)]
theorem call29_62 : Callable Try.prog 62 := ⟨Try.f62, Try.func62, by kernel_rfl, by kernel_rfl⟩
theorem ext29Ok : ExtOk Try.prog ext29 := ⟨⟨call29_62, con62⟩, trivial⟩

noncomputable def b29 : Code := bodyOf Try.f29
theorem hb29 : Try.f29.body = some b29 := by kernel_rfl
def sig29 : List AT := [AT.v (Ty.sl (Ty.cons Ty.str (Ty.cons (Ty.int IntKind.i64) (Ty.cons (Ty.int IntKind.i64) Ty.unit))))]
def tys29 : List Ty := [Ty.sl (Ty.cons Ty.str (Ty.cons (Ty.int IntKind.i64) (Ty.cons (Ty.int IntKind.i64) Ty.unit)))]
def kds29 : List RK := []
def oks29 : List AT := owns sig29
def E29_3 (v4 : Int) (h0 : List (ByteArray × Int × Int × Unit)) (x0 : List (ByteArray × Int × Int × Unit)) : Env := [(0, PV.a (Atom.sl (Ty.cons Ty.str (Ty.cons (Ty.int IntKind.i64) (Ty.cons (Ty.int IntKind.i64) Ty.unit))) x0)), (3, PV.a (Atom.osl 0 Option.none)), (4, PV.a (Atom.val (Value.int IntKind.i64 v4)))]
def L29_3 (v4 : Int) (h0 : List (ByteArray × Int × Int × Unit)) (x0 : List (ByteArray × Int × Int × Unit)) : Heap := [Option.some (Arr.mk (Ty.cons Ty.str (Ty.cons (Ty.int IntKind.i64) (Ty.cons (Ty.int IntKind.i64) Ty.unit))) h0 Bool.false Option.none Option.none)]
mutual
def R29 : Nat → List (ByteArray × Int × Int × Unit) → List Dyn → Prop
  | 0, _, _ => False
  | n + 1, x0, ds => ((0 ≤ (↑(List.length x0) : Int)) ∧ ((↑(List.length x0) : Int) ≤ (↑(List.length x0) : Int)) ∧ (32 * (↑(List.length x0) : Int) ≤ 281474976710656) ∧ (R29_3 n (0) (List.replicate (Int.toNat (↑(List.length x0) : Int)) (ByteArray.empty, 0, 0, ())) (x0) ds))
def R29_3 : Nat → Int → List (ByteArray × Int × Int × Unit) → List (ByteArray × Int × Int × Unit) → List Dyn → Prop
  | 0, _, _, _, _ => False
  | n + 1, v4, h0, x0, ds => (if (Decidable.decide (v4 < (↑(List.length x0) : Int))) = true then ((0 ≤ v4) ∧ (v4 < (↑(List.length x0) : Int)) ∧ ((0 ≤ v4) ∧ (v4 < (↑(List.length h0) : Int)) ∧ ((InR IntKind.i64 (v4 + 1)) ∧ (R29_3 n (v4 + 1) (List.set h0 (Int.toNat v4) (Prod.fst (List.getD x0 (Int.toNat v4) (ByteArray.empty, 0, 0, ())), Prod.fst (Prod.snd (List.getD x0 (Int.toNat v4) (ByteArray.empty, 0, 0, ()))), Prod.fst (Prod.snd (Prod.snd (List.getD x0 (Int.toNat v4) (ByteArray.empty, 0, 0, ())))), ())) (x0) ds)))) else (ds = [Dyn.mk (Ty.sl (Ty.cons Ty.str (Ty.cons (Ty.int IntKind.i64) (Ty.cons (Ty.int IntKind.i64) Ty.unit)))) h0]))
end
theorem p29_0 (x0 : List (ByteArray × Int × Int × Unit)) : Am.runN tab ext29 false 23 [] 2000 [] [] [0, 3, 4] [0] [] [.code b29] (entE 0 0 sig29 (x0, ())) (entL sig29 (x0, ())) = some (cutAt b29 3, E29_3 (0) (List.replicate (Int.toNat (↑(List.length x0) : Int)) (ByteArray.empty, 0, 0, ())) (x0), L29_3 (0) (List.replicate (Int.toNat (↑(List.length x0) : Int)) (ByteArray.empty, 0, 0, ())) (x0), [0 ≤ (↑(List.length x0) : Int), (↑(List.length x0) : Int) ≤ (↑(List.length x0) : Int), 32 * (↑(List.length x0) : Int) ≤ 281474976710656]) := by kernel_rfl
theorem p29_1 (v4 : Int) (h0 : List (ByteArray × Int × Int × Unit)) (x0 : List (ByteArray × Int × Int × Unit)) : Am.runN tab ext29 false 23 [] 2000 [] [] [0, 3, 4] [0] [true] (cutAt b29 3) (E29_3 v4 h0 x0) (L29_3 v4 h0 x0) = some (cutAt b29 3, E29_3 (v4 + 1) (List.set h0 (Int.toNat v4) (Prod.fst (List.getD x0 (Int.toNat v4) (ByteArray.empty, 0, 0, ())), Prod.fst (Prod.snd (List.getD x0 (Int.toNat v4) (ByteArray.empty, 0, 0, ()))), Prod.fst (Prod.snd (Prod.snd (List.getD x0 (Int.toNat v4) (ByteArray.empty, 0, 0, ())))), ())) (x0), L29_3 (v4 + 1) (List.set h0 (Int.toNat v4) (Prod.fst (List.getD x0 (Int.toNat v4) (ByteArray.empty, 0, 0, ())), Prod.fst (Prod.snd (List.getD x0 (Int.toNat v4) (ByteArray.empty, 0, 0, ()))), Prod.fst (Prod.snd (Prod.snd (List.getD x0 (Int.toNat v4) (ByteArray.empty, 0, 0, ())))), ())) (x0), [Decidable.decide (v4 < (↑(List.length x0) : Int)) = Bool.true, 0 ≤ v4, v4 < (↑(List.length x0) : Int), True, 0 ≤ v4, v4 < (↑(List.length h0) : Int), InR IntKind.i64 (v4 + 1)]) := by kernel_rfl
theorem p29_2 (v4 : Int) (h0 : List (ByteArray × Int × Int × Unit)) (x0 : List (ByteArray × Int × Int × Unit)) : runF tab ext29 false 23 [] 2000 [] oks29 kds29 tys29 Try.f29.results [false] (cutAt b29 3) (E29_3 v4 h0 x0) (L29_3 v4 h0 x0) = some ([Dyn.mk (Ty.sl (Ty.cons Ty.str (Ty.cons (Ty.int IntKind.i64) (Ty.cons (Ty.int IntKind.i64) Ty.unit)))) h0], [], [Decidable.decide (v4 < (↑(List.length x0) : Int)) = Bool.false]) := by kernel_rfl
theorem snd29 : ∀ n, (∀ (x0 : List (ByteArray × Int × Int × Unit)) ds, R29 n x0 ds → ∀ K q, AtV Try.prog 29 (PostR kds29 oks29 ds [] [] q K) 23 K q [] [.code b29] (entE 0 0 sig29 (x0, ())) (entL sig29 (x0, ()))) ∧ (∀ (v4 : Int) (h0 : List (ByteArray × Int × Int × Unit)) (x0 : List (ByteArray × Int × Int × Unit)) ds, R29_3 n v4 h0 x0 ds → ∀ K q, AtV Try.prog 29 (PostR kds29 oks29 ds [] [] q K) 23 K q [] (cutAt b29 3) (E29_3 v4 h0 x0) (L29_3 v4 h0 x0)) := by
  intro n
  induction n with
  | zero => exact ⟨fun _ _ h => by simp only [R29] at h, fun _ _ _ _ h => by simp only [R29_3] at h⟩
  | succ n ih =>
  obtain ⟨ih, ih3⟩ := ih
  refine ⟨?_, ?_⟩
  · intro x0 ds h K q
    rw [R29] at h
    obtain ⟨s0, s1, s2, h⟩ := h
    exact AtV.runN tabOk ext29Ok mixed (p29_0 x0) ⟨s0, s1, s2, trivial⟩ (ih3 _ _ _ _ h K q)

  · intro v4 h0 x0 ds h K q
    rw [R29_3] at h
    by_cases b0 : (Decidable.decide (v4 < (↑(List.length x0) : Int))) = true
    · rw [if_pos b0] at h
      obtain ⟨s0, s1, h⟩ := h
      obtain ⟨s2, s3, h⟩ := h
      obtain ⟨s4, h⟩ := h
      exact AtV.runN tabOk ext29Ok mixed (p29_1 v4 h0 x0) ⟨b0, s0, s1, trivial, s2, s3, s4, trivial⟩ (ih3 _ _ _ _ h K q)
    · rw [if_neg b0] at h
      replace b0 := Bool.eq_false_iff.2 b0
      subst h
      exact AtV.fin Try.func29 tabOk ext29Ok mixed (p29_2 v4 h0 x0) ⟨b0, trivial⟩



theorem run29 (x0 : List (ByteArray × Int × Int × Unit)) (hm : x0.length ≤ maxLen) : ∀ (k i : Nat), i + k = x0.length →
    R29_3 (k + 1) (i : Int) (x0.take i ++ List.replicate k (ByteArray.empty, (0 : Int), (0 : Int), ())) x0 [⟨.sl (.cons .str (.cons (.int .i64) (.cons (.int .i64) .unit))), x0⟩] := by
  intro k
  induction k with
  | zero =>
    intro i hi
    rw [R29_3, if_neg (by simp; omega), List.take_of_length_le (by omega)]
    simp
  | succ k ih =>
    intro i hi
    rw [R29_3, if_pos (by simp; omega)]
    simp only [Int.toNat_natCast]
    refine ⟨by omega, by omega, by omega, by simp; omega, inR_up hm (by omega), ?_⟩
    have hs := set_step x0 (ByteArray.empty, (0 : Int), (0 : Int), ()) i (by omega) (k + 1) (by omega)
    have he : ∀ y : (ByteArray × Int × Int × Unit), (y.1, y.2.1, y.2.2.1, ()) = y := fun _ => rfl
    rw [he, hs]
    exact ih (i + 1) (by omega)

def g29_0 (x0 : List (ByteArray × Int × Int × Unit)) : List (ByteArray × Int × Int × Unit) := x0
def P29 (x0 : List (ByteArray × Int × Int × Unit)) : Prop := 32 * (x0.length : Int) ≤ 281474976710656
def S29 : Am.Spec := { sig := sig29, pre := fun ⟨x0, _⟩ => P29 x0, res := fun ⟨x0, _⟩ => [⟨.sl (.cons .str (.cons (.int .i64) (.cons (.int .i64) .unit))), g29_0 x0⟩] }
theorem con29 : Contract Try.prog 29 S29 := contract_of Try.func29 hb29 (Nat.le_of_ble_eq_true (by kernel_rfl)) (fun ⟨x0, _⟩ h hwf K q => by
  refine (snd29 (x0.length + 2)).1 x0 _ ?_ K q
  show R29 (x0.length + 1 + 1) x0 [⟨.sl (.cons .str (.cons (.int .i64) (.cons (.int .i64) .unit))), x0⟩]
  rw [R29]
  refine ⟨by omega, by omega, h, ?_⟩
  have := run29 x0 hwf.1.1 x0.length 0 (by omega)
  simpa using this)

end Go.Proofs.Ytpcfcplggpchjaa

/- Function 6 (laws.toDesk): its runs between cut points. Written by a program of this repo (gen). -/
set_option linter.unusedVariables false
set_option linter.unusedSimpArgs false
set_option maxRecDepth 100000
namespace Go.Proofs.Ytpcfcplggpchjaa
open Go Go.Am Go.Proofs
def ext6 : Ext := [(18, S18), (19, S19), (20, S20), (21, S21), (22, S22), (23, S23), (24, S24), (25, S25), (26, S26), (27, S27), (28, S28), (29, S29)]
theorem call6_18 : Callable Try.prog 18 := ⟨Try.f18, Try.func18, by kernel_rfl, by kernel_rfl⟩
theorem call6_19 : Callable Try.prog 19 := ⟨Try.f19, Try.func19, by kernel_rfl, by kernel_rfl⟩
theorem call6_20 : Callable Try.prog 20 := ⟨Try.f20, Try.func20, by kernel_rfl, by kernel_rfl⟩
theorem call6_21 : Callable Try.prog 21 := ⟨Try.f21, Try.func21, by kernel_rfl, by kernel_rfl⟩
theorem call6_22 : Callable Try.prog 22 := ⟨Try.f22, Try.func22, by kernel_rfl, by kernel_rfl⟩
theorem call6_23 : Callable Try.prog 23 := ⟨Try.f23, Try.func23, by kernel_rfl, by kernel_rfl⟩
theorem call6_24 : Callable Try.prog 24 := ⟨Try.f24, Try.func24, by kernel_rfl, by kernel_rfl⟩
theorem call6_25 : Callable Try.prog 25 := ⟨Try.f25, Try.func25, by kernel_rfl, by kernel_rfl⟩
theorem call6_26 : Callable Try.prog 26 := ⟨Try.f26, Try.func26, by kernel_rfl, by kernel_rfl⟩
theorem call6_27 : Callable Try.prog 27 := ⟨Try.f27, Try.func27, by kernel_rfl, by kernel_rfl⟩
theorem call6_28 : Callable Try.prog 28 := ⟨Try.f28, Try.func28, by kernel_rfl, by kernel_rfl⟩
theorem call6_29 : Callable Try.prog 29 := ⟨Try.f29, Try.func29, by kernel_rfl, by kernel_rfl⟩
theorem ext6Ok : ExtOk Try.prog ext6 := ⟨⟨call6_18, con18⟩, ⟨call6_19, con19⟩, ⟨call6_20, con20⟩, ⟨call6_21, con21⟩, ⟨call6_22, con22⟩, ⟨call6_23, con23⟩, ⟨call6_24, con24⟩, ⟨call6_25, con25⟩, ⟨call6_26, con26⟩, ⟨call6_27, con27⟩, ⟨call6_28, con28⟩, ⟨call6_29, con29⟩, trivial⟩

noncomputable def b6 : Code := bodyOf Try.f6
theorem hb6 : Try.f6.body = some b6 := by kernel_rfl
def sig6 : List AT := [AT.v (Ty.cons (Ty.sl (Ty.cons Ty.str (Ty.cons (Ty.int IntKind.i64) (Ty.cons (Ty.int IntKind.i64) (Ty.cons (Ty.int IntKind.i64) Ty.unit))))) (Ty.cons (Ty.cons (Ty.int IntKind.i64) (Ty.cons (Ty.int IntKind.i64) (Ty.cons (Ty.int IntKind.i64) (Ty.cons (Ty.int IntKind.i64) Ty.unit)))) (Ty.cons (Ty.sl (Ty.cons (Ty.int IntKind.i64) (Ty.cons (Ty.int IntKind.i64) (Ty.cons (Ty.int IntKind.i64) Ty.unit)))) (Ty.cons (Ty.sl (Ty.cons (Ty.int IntKind.i64) (Ty.cons (Ty.int IntKind.i64) (Ty.cons (Ty.int IntKind.i64) Ty.unit)))) (Ty.cons (Ty.cons (Ty.int IntKind.i64) (Ty.cons (Ty.int IntKind.i64) (Ty.cons (Ty.int IntKind.i64) Ty.unit))) (Ty.cons (Ty.cons (Ty.int IntKind.i64) (Ty.cons (Ty.int IntKind.i64) (Ty.cons (Ty.int IntKind.i64) Ty.unit))) (Ty.cons (Ty.sl (Ty.cons Ty.str (Ty.cons (Ty.int IntKind.i64) (Ty.cons (Ty.int IntKind.i64) Ty.unit)))) (Ty.cons (Ty.cons (Ty.int IntKind.i64) (Ty.cons (Ty.int IntKind.i64) (Ty.cons (Ty.int IntKind.i64) (Ty.cons (Ty.int IntKind.i64) Ty.unit)))) (Ty.cons (Ty.sl (Ty.cons Ty.str (Ty.cons (Ty.int IntKind.i64) (Ty.cons (Ty.int IntKind.i64) (Ty.cons (Ty.int IntKind.i64) Ty.unit))))) (Ty.cons (Ty.sl (Ty.cons (Ty.int IntKind.i64) (Ty.cons (Ty.int IntKind.i64) (Ty.cons (Ty.int IntKind.i64) Ty.unit)))) (Ty.cons (Ty.sl (Ty.cons Ty.str (Ty.cons (Ty.int IntKind.i64) (Ty.cons (Ty.int IntKind.i64) Ty.unit)))) (Ty.cons (Ty.sl (Ty.cons Ty.str (Ty.cons (Ty.int IntKind.i64) (Ty.cons (Ty.int IntKind.i64) Ty.unit)))) Ty.unit))))))))))))]
def tys6 : List Ty := [Ty.cons (Ty.sl (Ty.cons Ty.str (Ty.cons (Ty.int IntKind.i64) (Ty.cons (Ty.int IntKind.i64) (Ty.cons (Ty.int IntKind.i64) Ty.unit))))) (Ty.cons (Ty.cons (Ty.int IntKind.i64) (Ty.cons (Ty.int IntKind.i64) (Ty.cons (Ty.int IntKind.i64) (Ty.cons (Ty.int IntKind.i64) Ty.unit)))) (Ty.cons (Ty.sl (Ty.cons (Ty.int IntKind.i64) (Ty.cons (Ty.int IntKind.i64) (Ty.cons (Ty.int IntKind.i64) Ty.unit)))) (Ty.cons (Ty.sl (Ty.cons (Ty.int IntKind.i64) (Ty.cons (Ty.int IntKind.i64) (Ty.cons (Ty.int IntKind.i64) Ty.unit)))) (Ty.cons (Ty.cons (Ty.int IntKind.i64) (Ty.cons (Ty.int IntKind.i64) (Ty.cons (Ty.int IntKind.i64) Ty.unit))) (Ty.cons (Ty.cons (Ty.int IntKind.i64) (Ty.cons (Ty.int IntKind.i64) (Ty.cons (Ty.int IntKind.i64) Ty.unit))) (Ty.cons (Ty.sl (Ty.cons Ty.str (Ty.cons (Ty.int IntKind.i64) (Ty.cons (Ty.int IntKind.i64) Ty.unit)))) (Ty.cons (Ty.cons (Ty.int IntKind.i64) (Ty.cons (Ty.int IntKind.i64) (Ty.cons (Ty.int IntKind.i64) (Ty.cons (Ty.int IntKind.i64) Ty.unit)))) (Ty.cons (Ty.sl (Ty.cons Ty.str (Ty.cons (Ty.int IntKind.i64) (Ty.cons (Ty.int IntKind.i64) (Ty.cons (Ty.int IntKind.i64) Ty.unit))))) (Ty.cons (Ty.sl (Ty.cons (Ty.int IntKind.i64) (Ty.cons (Ty.int IntKind.i64) (Ty.cons (Ty.int IntKind.i64) Ty.unit)))) (Ty.cons (Ty.sl (Ty.cons Ty.str (Ty.cons (Ty.int IntKind.i64) (Ty.cons (Ty.int IntKind.i64) Ty.unit)))) (Ty.cons (Ty.sl (Ty.cons Ty.str (Ty.cons (Ty.int IntKind.i64) (Ty.cons (Ty.int IntKind.i64) Ty.unit)))) Ty.unit)))))))))))]
def kds6 : List RK := [.frz]
def oks6 : List AT := owns sig6
def P6 (x0 : TyA0) : Prop := ((P18 (Prod.fst x0)) ∧ ((P20 (Prod.fst (Prod.snd (Prod.snd x0)))) ∧ ((P21 (Prod.fst (Prod.snd (Prod.snd (Prod.snd x0))))) ∧ ((P24 (Prod.fst (Prod.snd (Prod.snd (Prod.snd (Prod.snd (Prod.snd (Prod.snd x0)))))))) ∧ ((P26 (Prod.fst (Prod.snd (Prod.snd (Prod.snd (Prod.snd (Prod.snd (Prod.snd (Prod.snd (Prod.snd x0)))))))))) ∧ ((P27 (Prod.fst (Prod.snd (Prod.snd (Prod.snd (Prod.snd (Prod.snd (Prod.snd (Prod.snd (Prod.snd (Prod.snd x0))))))))))) ∧ ((P28 (Prod.fst (Prod.snd (Prod.snd (Prod.snd (Prod.snd (Prod.snd (Prod.snd (Prod.snd (Prod.snd (Prod.snd (Prod.snd x0)))))))))))) ∧ ((P29 (Prod.fst (Prod.snd (Prod.snd (Prod.snd (Prod.snd (Prod.snd (Prod.snd (Prod.snd (Prod.snd (Prod.snd (Prod.snd (Prod.snd x0))))))))))))) ∧ True))))))))
def g6_0 (x0 : TyA0) : TyA0 := (g18_0 (Prod.fst x0), (Prod.fst (Prod.fst (Prod.snd x0)), Prod.fst (Prod.snd (Prod.fst (Prod.snd x0))), Prod.fst (Prod.snd (Prod.snd (Prod.fst (Prod.snd x0)))), Prod.fst (Prod.snd (Prod.snd (Prod.snd (Prod.fst (Prod.snd x0))))), ()), g20_0 (Prod.fst (Prod.snd (Prod.snd x0))), g21_0 (Prod.fst (Prod.snd (Prod.snd (Prod.snd x0)))), (Prod.fst (Prod.fst (Prod.snd (Prod.snd (Prod.snd (Prod.snd x0))))), Prod.fst (Prod.snd (Prod.fst (Prod.snd (Prod.snd (Prod.snd (Prod.snd x0)))))), Prod.fst (Prod.snd (Prod.snd (Prod.fst (Prod.snd (Prod.snd (Prod.snd (Prod.snd x0))))))), ()), (Prod.fst (Prod.fst (Prod.snd (Prod.snd (Prod.snd (Prod.snd (Prod.snd x0)))))), Prod.fst (Prod.snd (Prod.fst (Prod.snd (Prod.snd (Prod.snd (Prod.snd (Prod.snd x0))))))), Prod.fst (Prod.snd (Prod.snd (Prod.fst (Prod.snd (Prod.snd (Prod.snd (Prod.snd (Prod.snd x0)))))))), ()), g24_0 (Prod.fst (Prod.snd (Prod.snd (Prod.snd (Prod.snd (Prod.snd (Prod.snd x0))))))), (Prod.fst (Prod.fst (Prod.snd (Prod.snd (Prod.snd (Prod.snd (Prod.snd (Prod.snd (Prod.snd x0)))))))), Prod.fst (Prod.snd (Prod.fst (Prod.snd (Prod.snd (Prod.snd (Prod.snd (Prod.snd (Prod.snd (Prod.snd x0))))))))), Prod.fst (Prod.snd (Prod.snd (Prod.fst (Prod.snd (Prod.snd (Prod.snd (Prod.snd (Prod.snd (Prod.snd (Prod.snd x0)))))))))), Prod.fst (Prod.snd (Prod.snd (Prod.snd (Prod.fst (Prod.snd (Prod.snd (Prod.snd (Prod.snd (Prod.snd (Prod.snd (Prod.snd x0))))))))))), ()), g26_0 (Prod.fst (Prod.snd (Prod.snd (Prod.snd (Prod.snd (Prod.snd (Prod.snd (Prod.snd (Prod.snd x0))))))))), g27_0 (Prod.fst (Prod.snd (Prod.snd (Prod.snd (Prod.snd (Prod.snd (Prod.snd (Prod.snd (Prod.snd (Prod.snd x0)))))))))), g28_0 (Prod.fst (Prod.snd (Prod.snd (Prod.snd (Prod.snd (Prod.snd (Prod.snd (Prod.snd (Prod.snd (Prod.snd (Prod.snd x0))))))))))), g29_0 (Prod.fst (Prod.snd (Prod.snd (Prod.snd (Prod.snd (Prod.snd (Prod.snd (Prod.snd (Prod.snd (Prod.snd (Prod.snd (Prod.snd x0)))))))))))), ())
theorem p6_0 (x0 : TyA0) : runF tab ext6 false 53 [] 2000 [] oks6 kds6 tys6 Try.f6.results [] [.code b6] (entE 0 0 sig6 (x0, ())) (entL sig6 (x0, ())) = some ([Dyn.mk (Ty.cons (Ty.sl (Ty.cons Ty.str (Ty.cons (Ty.int IntKind.i64) (Ty.cons (Ty.int IntKind.i64) (Ty.cons (Ty.int IntKind.i64) Ty.unit))))) (Ty.cons (Ty.cons (Ty.int IntKind.i64) (Ty.cons (Ty.int IntKind.i64) (Ty.cons (Ty.int IntKind.i64) (Ty.cons (Ty.int IntKind.i64) Ty.unit)))) (Ty.cons (Ty.sl (Ty.cons (Ty.int IntKind.i64) (Ty.cons (Ty.int IntKind.i64) (Ty.cons (Ty.int IntKind.i64) Ty.unit)))) (Ty.cons (Ty.sl (Ty.cons (Ty.int IntKind.i64) (Ty.cons (Ty.int IntKind.i64) (Ty.cons (Ty.int IntKind.i64) Ty.unit)))) (Ty.cons (Ty.cons (Ty.int IntKind.i64) (Ty.cons (Ty.int IntKind.i64) (Ty.cons (Ty.int IntKind.i64) Ty.unit))) (Ty.cons (Ty.cons (Ty.int IntKind.i64) (Ty.cons (Ty.int IntKind.i64) (Ty.cons (Ty.int IntKind.i64) Ty.unit))) (Ty.cons (Ty.sl (Ty.cons Ty.str (Ty.cons (Ty.int IntKind.i64) (Ty.cons (Ty.int IntKind.i64) Ty.unit)))) (Ty.cons (Ty.cons (Ty.int IntKind.i64) (Ty.cons (Ty.int IntKind.i64) (Ty.cons (Ty.int IntKind.i64) (Ty.cons (Ty.int IntKind.i64) Ty.unit)))) (Ty.cons (Ty.sl (Ty.cons Ty.str (Ty.cons (Ty.int IntKind.i64) (Ty.cons (Ty.int IntKind.i64) (Ty.cons (Ty.int IntKind.i64) Ty.unit))))) (Ty.cons (Ty.sl (Ty.cons (Ty.int IntKind.i64) (Ty.cons (Ty.int IntKind.i64) (Ty.cons (Ty.int IntKind.i64) Ty.unit)))) (Ty.cons (Ty.sl (Ty.cons Ty.str (Ty.cons (Ty.int IntKind.i64) (Ty.cons (Ty.int IntKind.i64) Ty.unit)))) (Ty.cons (Ty.sl (Ty.cons Ty.str (Ty.cons (Ty.int IntKind.i64) (Ty.cons (Ty.int IntKind.i64) Ty.unit)))) Ty.unit)))))))))))) (g18_0 (Prod.fst x0), (Prod.fst (Prod.fst (Prod.snd x0)), Prod.fst (Prod.snd (Prod.fst (Prod.snd x0))), Prod.fst (Prod.snd (Prod.snd (Prod.fst (Prod.snd x0)))), Prod.fst (Prod.snd (Prod.snd (Prod.snd (Prod.fst (Prod.snd x0))))), ()), g20_0 (Prod.fst (Prod.snd (Prod.snd x0))), g21_0 (Prod.fst (Prod.snd (Prod.snd (Prod.snd x0)))), (Prod.fst (Prod.fst (Prod.snd (Prod.snd (Prod.snd (Prod.snd x0))))), Prod.fst (Prod.snd (Prod.fst (Prod.snd (Prod.snd (Prod.snd (Prod.snd x0)))))), Prod.fst (Prod.snd (Prod.snd (Prod.fst (Prod.snd (Prod.snd (Prod.snd (Prod.snd x0))))))), ()), (Prod.fst (Prod.fst (Prod.snd (Prod.snd (Prod.snd (Prod.snd (Prod.snd x0)))))), Prod.fst (Prod.snd (Prod.fst (Prod.snd (Prod.snd (Prod.snd (Prod.snd (Prod.snd x0))))))), Prod.fst (Prod.snd (Prod.snd (Prod.fst (Prod.snd (Prod.snd (Prod.snd (Prod.snd (Prod.snd x0)))))))), ()), g24_0 (Prod.fst (Prod.snd (Prod.snd (Prod.snd (Prod.snd (Prod.snd (Prod.snd x0))))))), (Prod.fst (Prod.fst (Prod.snd (Prod.snd (Prod.snd (Prod.snd (Prod.snd (Prod.snd (Prod.snd x0)))))))), Prod.fst (Prod.snd (Prod.fst (Prod.snd (Prod.snd (Prod.snd (Prod.snd (Prod.snd (Prod.snd (Prod.snd x0))))))))), Prod.fst (Prod.snd (Prod.snd (Prod.fst (Prod.snd (Prod.snd (Prod.snd (Prod.snd (Prod.snd (Prod.snd (Prod.snd x0)))))))))), Prod.fst (Prod.snd (Prod.snd (Prod.snd (Prod.fst (Prod.snd (Prod.snd (Prod.snd (Prod.snd (Prod.snd (Prod.snd (Prod.snd x0))))))))))), ()), g26_0 (Prod.fst (Prod.snd (Prod.snd (Prod.snd (Prod.snd (Prod.snd (Prod.snd (Prod.snd (Prod.snd x0))))))))), g27_0 (Prod.fst (Prod.snd (Prod.snd (Prod.snd (Prod.snd (Prod.snd (Prod.snd (Prod.snd (Prod.snd (Prod.snd x0)))))))))), g28_0 (Prod.fst (Prod.snd (Prod.snd (Prod.snd (Prod.snd (Prod.snd (Prod.snd (Prod.snd (Prod.snd (Prod.snd (Prod.snd x0))))))))))), g29_0 (Prod.fst (Prod.snd (Prod.snd (Prod.snd (Prod.snd (Prod.snd (Prod.snd (Prod.snd (Prod.snd (Prod.snd (Prod.snd (Prod.snd x0)))))))))))), ())], [], [P18 (Prod.fst x0), True, P20 (Prod.fst (Prod.snd (Prod.snd x0))), P21 (Prod.fst (Prod.snd (Prod.snd (Prod.snd x0)))), True, True, P24 (Prod.fst (Prod.snd (Prod.snd (Prod.snd (Prod.snd (Prod.snd (Prod.snd x0))))))), True, P26 (Prod.fst (Prod.snd (Prod.snd (Prod.snd (Prod.snd (Prod.snd (Prod.snd (Prod.snd (Prod.snd x0))))))))), P27 (Prod.fst (Prod.snd (Prod.snd (Prod.snd (Prod.snd (Prod.snd (Prod.snd (Prod.snd (Prod.snd (Prod.snd x0)))))))))), P28 (Prod.fst (Prod.snd (Prod.snd (Prod.snd (Prod.snd (Prod.snd (Prod.snd (Prod.snd (Prod.snd (Prod.snd (Prod.snd x0))))))))))), P29 (Prod.fst (Prod.snd (Prod.snd (Prod.snd (Prod.snd (Prod.snd (Prod.snd (Prod.snd (Prod.snd (Prod.snd (Prod.snd (Prod.snd x0))))))))))))]) := by kernel_rfl
theorem at6 (x0 : TyA0) (h : P6 x0) (K : Ctx) (q : Nat → Value) : AtV Try.prog 6 (PostR kds6 oks6 [⟨Ty.cons (Ty.sl (Ty.cons Ty.str (Ty.cons (Ty.int IntKind.i64) (Ty.cons (Ty.int IntKind.i64) (Ty.cons (Ty.int IntKind.i64) Ty.unit))))) (Ty.cons (Ty.cons (Ty.int IntKind.i64) (Ty.cons (Ty.int IntKind.i64) (Ty.cons (Ty.int IntKind.i64) (Ty.cons (Ty.int IntKind.i64) Ty.unit)))) (Ty.cons (Ty.sl (Ty.cons (Ty.int IntKind.i64) (Ty.cons (Ty.int IntKind.i64) (Ty.cons (Ty.int IntKind.i64) Ty.unit)))) (Ty.cons (Ty.sl (Ty.cons (Ty.int IntKind.i64) (Ty.cons (Ty.int IntKind.i64) (Ty.cons (Ty.int IntKind.i64) Ty.unit)))) (Ty.cons (Ty.cons (Ty.int IntKind.i64) (Ty.cons (Ty.int IntKind.i64) (Ty.cons (Ty.int IntKind.i64) Ty.unit))) (Ty.cons (Ty.cons (Ty.int IntKind.i64) (Ty.cons (Ty.int IntKind.i64) (Ty.cons (Ty.int IntKind.i64) Ty.unit))) (Ty.cons (Ty.sl (Ty.cons Ty.str (Ty.cons (Ty.int IntKind.i64) (Ty.cons (Ty.int IntKind.i64) Ty.unit)))) (Ty.cons (Ty.cons (Ty.int IntKind.i64) (Ty.cons (Ty.int IntKind.i64) (Ty.cons (Ty.int IntKind.i64) (Ty.cons (Ty.int IntKind.i64) Ty.unit)))) (Ty.cons (Ty.sl (Ty.cons Ty.str (Ty.cons (Ty.int IntKind.i64) (Ty.cons (Ty.int IntKind.i64) (Ty.cons (Ty.int IntKind.i64) Ty.unit))))) (Ty.cons (Ty.sl (Ty.cons (Ty.int IntKind.i64) (Ty.cons (Ty.int IntKind.i64) (Ty.cons (Ty.int IntKind.i64) Ty.unit)))) (Ty.cons (Ty.sl (Ty.cons Ty.str (Ty.cons (Ty.int IntKind.i64) (Ty.cons (Ty.int IntKind.i64) Ty.unit)))) (Ty.cons (Ty.sl (Ty.cons Ty.str (Ty.cons (Ty.int IntKind.i64) (Ty.cons (Ty.int IntKind.i64) Ty.unit)))) Ty.unit))))))))))), g6_0 x0⟩] [] [] q K) 53 K q [] [.code b6] (entE 0 0 sig6 (x0, ())) (entL sig6 (x0, ())) := by
  unfold P6 at h
  unfold g6_0
  obtain ⟨s0, h⟩ := h
  obtain ⟨s1, h⟩ := h
  obtain ⟨s2, h⟩ := h
  obtain ⟨s3, h⟩ := h
  obtain ⟨s4, h⟩ := h
  obtain ⟨s5, h⟩ := h
  obtain ⟨s6, h⟩ := h
  obtain ⟨s7, h⟩ := h
  exact AtV.fin Try.func6 tabOk ext6Ok mixed (p6_0 x0) ⟨s0, trivial, s1, s2, trivial, trivial, s3, trivial, s4, s5, s6, s7, trivial⟩

def S6 : Am.Spec := { sig := sig6, pre := fun ⟨x0, _⟩ => P6 x0, res := fun ⟨x0, _⟩ => [⟨Ty.cons (Ty.sl (Ty.cons Ty.str (Ty.cons (Ty.int IntKind.i64) (Ty.cons (Ty.int IntKind.i64) (Ty.cons (Ty.int IntKind.i64) Ty.unit))))) (Ty.cons (Ty.cons (Ty.int IntKind.i64) (Ty.cons (Ty.int IntKind.i64) (Ty.cons (Ty.int IntKind.i64) (Ty.cons (Ty.int IntKind.i64) Ty.unit)))) (Ty.cons (Ty.sl (Ty.cons (Ty.int IntKind.i64) (Ty.cons (Ty.int IntKind.i64) (Ty.cons (Ty.int IntKind.i64) Ty.unit)))) (Ty.cons (Ty.sl (Ty.cons (Ty.int IntKind.i64) (Ty.cons (Ty.int IntKind.i64) (Ty.cons (Ty.int IntKind.i64) Ty.unit)))) (Ty.cons (Ty.cons (Ty.int IntKind.i64) (Ty.cons (Ty.int IntKind.i64) (Ty.cons (Ty.int IntKind.i64) Ty.unit))) (Ty.cons (Ty.cons (Ty.int IntKind.i64) (Ty.cons (Ty.int IntKind.i64) (Ty.cons (Ty.int IntKind.i64) Ty.unit))) (Ty.cons (Ty.sl (Ty.cons Ty.str (Ty.cons (Ty.int IntKind.i64) (Ty.cons (Ty.int IntKind.i64) Ty.unit)))) (Ty.cons (Ty.cons (Ty.int IntKind.i64) (Ty.cons (Ty.int IntKind.i64) (Ty.cons (Ty.int IntKind.i64) (Ty.cons (Ty.int IntKind.i64) Ty.unit)))) (Ty.cons (Ty.sl (Ty.cons Ty.str (Ty.cons (Ty.int IntKind.i64) (Ty.cons (Ty.int IntKind.i64) (Ty.cons (Ty.int IntKind.i64) Ty.unit))))) (Ty.cons (Ty.sl (Ty.cons (Ty.int IntKind.i64) (Ty.cons (Ty.int IntKind.i64) (Ty.cons (Ty.int IntKind.i64) Ty.unit)))) (Ty.cons (Ty.sl (Ty.cons Ty.str (Ty.cons (Ty.int IntKind.i64) (Ty.cons (Ty.int IntKind.i64) Ty.unit)))) (Ty.cons (Ty.sl (Ty.cons Ty.str (Ty.cons (Ty.int IntKind.i64) (Ty.cons (Ty.int IntKind.i64) Ty.unit)))) Ty.unit))))))))))), g6_0 x0⟩], kds := kds6 }
theorem con6 : Contract Try.prog 6 S6 := contract_of Try.func6 hb6 (Nat.le_of_ble_eq_true (by kernel_rfl)) (fun ⟨x0, _⟩ h _ K q => at6 x0 h K q)


end Go.Proofs.Ytpcfcplggpchjaa

/- Function 63 (laws.eqBend): its runs between cut points. Written by a program of this repo (gen). -/
set_option linter.unusedVariables false
set_option linter.unusedSimpArgs false
set_option maxRecDepth 100000
namespace Go.Proofs.Ytpcfcplggpchjaa
open Go Go.Am Go.Proofs
def ext63 : Ext := []
theorem ext63Ok : ExtOk Try.prog ext63 := trivial

noncomputable def b63 : Code := bodyOf Try.f63
theorem hb63 : Try.f63.body = some b63 := by kernel_rfl
def sig63 : List AT := [AT.v (Ty.cons Ty.str (Ty.cons (Ty.int IntKind.i64) (Ty.cons (Ty.int IntKind.i64) (Ty.cons (Ty.int IntKind.i64) Ty.unit)))), AT.v (Ty.cons Ty.str (Ty.cons (Ty.int IntKind.i64) (Ty.cons (Ty.int IntKind.i64) (Ty.cons (Ty.int IntKind.i64) Ty.unit))))]
def tys63 : List Ty := [Ty.bool]
def kds63 : List RK := []
def oks63 : List AT := owns sig63
def P63 (x0 : ByteArray × Int × Int × Int × Unit) (x1 : ByteArray × Int × Int × Int × Unit) : Prop := True
def g63_0 (x0 : ByteArray × Int × Int × Int × Unit) (x1 : ByteArray × Int × Int × Int × Unit) : Bool := (if (!ByteArray.toList (Prod.fst x0) == ByteArray.toList (Prod.fst x1)) = true then Bool.false else (if (Prod.fst (Prod.snd x0) != Prod.fst (Prod.snd x1)) = true then Bool.false else (if (Prod.fst (Prod.snd (Prod.snd x0)) != Prod.fst (Prod.snd (Prod.snd x1))) = true then Bool.false else (if (Prod.fst (Prod.snd (Prod.snd (Prod.snd x0))) != Prod.fst (Prod.snd (Prod.snd (Prod.snd x1)))) = true then Bool.false else Bool.true))))
theorem p63_0 (x0 : ByteArray × Int × Int × Int × Unit) (x1 : ByteArray × Int × Int × Int × Unit) : runF tab ext63 false 25 [] 2000 [] oks63 kds63 tys63 Try.f63.results [true] [.code b63] (entE 0 0 sig63 (x0, x1, ())) (entL sig63 (x0, x1, ())) = some ([Dyn.mk Ty.bool Bool.false], [], [(!ByteArray.toList (Prod.fst x0) == ByteArray.toList (Prod.fst x1)) = Bool.true]) := by kernel_rfl
theorem p63_1 (x0 : ByteArray × Int × Int × Int × Unit) (x1 : ByteArray × Int × Int × Int × Unit) : runF tab ext63 false 25 [] 2000 [] oks63 kds63 tys63 Try.f63.results [false, true] [.code b63] (entE 0 0 sig63 (x0, x1, ())) (entL sig63 (x0, x1, ())) = some ([Dyn.mk Ty.bool Bool.false], [], [(!ByteArray.toList (Prod.fst x0) == ByteArray.toList (Prod.fst x1)) = Bool.false, (Prod.fst (Prod.snd x0) != Prod.fst (Prod.snd x1)) = Bool.true]) := by kernel_rfl
theorem p63_2 (x0 : ByteArray × Int × Int × Int × Unit) (x1 : ByteArray × Int × Int × Int × Unit) : runF tab ext63 false 25 [] 2000 [] oks63 kds63 tys63 Try.f63.results [false, false, true] [.code b63] (entE 0 0 sig63 (x0, x1, ())) (entL sig63 (x0, x1, ())) = some ([Dyn.mk Ty.bool Bool.false], [], [(!ByteArray.toList (Prod.fst x0) == ByteArray.toList (Prod.fst x1)) = Bool.false, (Prod.fst (Prod.snd x0) != Prod.fst (Prod.snd x1)) = Bool.false, (Prod.fst (Prod.snd (Prod.snd x0)) != Prod.fst (Prod.snd (Prod.snd x1))) = Bool.true]) := by kernel_rfl
theorem p63_3 (x0 : ByteArray × Int × Int × Int × Unit) (x1 : ByteArray × Int × Int × Int × Unit) : runF tab ext63 false 25 [] 2000 [] oks63 kds63 tys63 Try.f63.results [false, false, false, true] [.code b63] (entE 0 0 sig63 (x0, x1, ())) (entL sig63 (x0, x1, ())) = some ([Dyn.mk Ty.bool Bool.false], [], [(!ByteArray.toList (Prod.fst x0) == ByteArray.toList (Prod.fst x1)) = Bool.false, (Prod.fst (Prod.snd x0) != Prod.fst (Prod.snd x1)) = Bool.false, (Prod.fst (Prod.snd (Prod.snd x0)) != Prod.fst (Prod.snd (Prod.snd x1))) = Bool.false, (Prod.fst (Prod.snd (Prod.snd (Prod.snd x0))) != Prod.fst (Prod.snd (Prod.snd (Prod.snd x1)))) = Bool.true]) := by kernel_rfl
theorem p63_4 (x0 : ByteArray × Int × Int × Int × Unit) (x1 : ByteArray × Int × Int × Int × Unit) : runF tab ext63 false 25 [] 2000 [] oks63 kds63 tys63 Try.f63.results [false, false, false, false] [.code b63] (entE 0 0 sig63 (x0, x1, ())) (entL sig63 (x0, x1, ())) = some ([Dyn.mk Ty.bool Bool.true], [], [(!ByteArray.toList (Prod.fst x0) == ByteArray.toList (Prod.fst x1)) = Bool.false, (Prod.fst (Prod.snd x0) != Prod.fst (Prod.snd x1)) = Bool.false, (Prod.fst (Prod.snd (Prod.snd x0)) != Prod.fst (Prod.snd (Prod.snd x1))) = Bool.false, (Prod.fst (Prod.snd (Prod.snd (Prod.snd x0))) != Prod.fst (Prod.snd (Prod.snd (Prod.snd x1)))) = Bool.false]) := by kernel_rfl
theorem at63 (x0 : ByteArray × Int × Int × Int × Unit) (x1 : ByteArray × Int × Int × Int × Unit) (h : P63 x0 x1) (K : Ctx) (q : Nat → Value) : AtV Try.prog 63 (PostR kds63 oks63 [⟨Ty.bool, g63_0 x0 x1⟩] [] [] q K) 25 K q [] [.code b63] (entE 0 0 sig63 (x0, x1, ())) (entL sig63 (x0, x1, ())) := by
  unfold P63 at h
  unfold g63_0
  by_cases b0 : (!ByteArray.toList (Prod.fst x0) == ByteArray.toList (Prod.fst x1)) = true
  · try simp only [if_pos b0] at h ⊢
    exact AtV.fin Try.func63 tabOk ext63Ok mixed (p63_0 x0 x1) ⟨b0, trivial⟩
  · try simp only [if_neg b0] at h ⊢
    replace b0 := Bool.eq_false_iff.2 b0
    by_cases b1 : (Prod.fst (Prod.snd x0) != Prod.fst (Prod.snd x1)) = true
    · try simp only [if_pos b1] at h ⊢
      exact AtV.fin Try.func63 tabOk ext63Ok mixed (p63_1 x0 x1) ⟨b0, b1, trivial⟩
    · try simp only [if_neg b1] at h ⊢
      replace b1 := Bool.eq_false_iff.2 b1
      by_cases b2 : (Prod.fst (Prod.snd (Prod.snd x0)) != Prod.fst (Prod.snd (Prod.snd x1))) = true
      · try simp only [if_pos b2] at h ⊢
        exact AtV.fin Try.func63 tabOk ext63Ok mixed (p63_2 x0 x1) ⟨b0, b1, b2, trivial⟩
      · try simp only [if_neg b2] at h ⊢
        replace b2 := Bool.eq_false_iff.2 b2
        by_cases b3 : (Prod.fst (Prod.snd (Prod.snd (Prod.snd x0))) != Prod.fst (Prod.snd (Prod.snd (Prod.snd x1)))) = true
        · try simp only [if_pos b3] at h ⊢
          exact AtV.fin Try.func63 tabOk ext63Ok mixed (p63_3 x0 x1) ⟨b0, b1, b2, b3, trivial⟩
        · try simp only [if_neg b3] at h ⊢
          replace b3 := Bool.eq_false_iff.2 b3
          exact AtV.fin Try.func63 tabOk ext63Ok mixed (p63_4 x0 x1) ⟨b0, b1, b2, b3, trivial⟩

def S63 : Am.Spec := { sig := sig63, pre := fun ⟨x0, x1, _⟩ => P63 x0 x1, res := fun ⟨x0, x1, _⟩ => [⟨Ty.bool, g63_0 x0 x1⟩], kds := kds63 }
theorem con63 : Contract Try.prog 63 S63 := contract_of Try.func63 hb63 (Nat.le_of_ble_eq_true (by kernel_rfl)) (fun ⟨x0, x1, _⟩ h _ K q => at63 x0 x1 h K q)


theorem eqd63 (x y : (ByteArray × Int × Int × Int × Unit)) : g63_0 x y = true ↔ x = y := by
  obtain ⟨a, b, c, d, u⟩ := x
  obtain ⟨a', b', c', d', u'⟩ := y
  unfold g63_0
  simp only [Bool.not_eq_true', bytes_ne, bne_iff_ne, ne_eq, ite_not]
  by_cases h0 : a = a'
  · by_cases h1 : b = b'
    · by_cases h2 : c = c'
      · by_cases h3 : d = d'
        · simp [h0, h1, h2, h3]
        · simp [h0, h1, h2, h3]
      · simp [h0, h1, h2]
    · simp [h0, h1]
  · simp [h0]

end Go.Proofs.Ytpcfcplggpchjaa

/- Function 38 (laws.eqBendS): its runs between cut points. Written by a program of this repo (gen). -/
set_option linter.unusedVariables false
set_option linter.unusedSimpArgs false
set_option maxRecDepth 100000
namespace Go.Proofs.Ytpcfcplggpchjaa
open Go Go.Am Go.Proofs
def ext38 : Ext := [(63, S63)]
theorem call38_63 : Callable Try.prog 63 := ⟨Try.f63, Try.func63, by kernel_rfl, by kernel_rfl⟩
theorem ext38Ok : ExtOk Try.prog ext38 := ⟨⟨call38_63, con63⟩, trivial⟩

noncomputable def b38 : Code := bodyOf Try.f38
theorem hb38 : Try.f38.body = some b38 := by kernel_rfl
def sig38 : List AT := [AT.v (Ty.sl (Ty.cons Ty.str (Ty.cons (Ty.int IntKind.i64) (Ty.cons (Ty.int IntKind.i64) (Ty.cons (Ty.int IntKind.i64) Ty.unit))))), AT.v (Ty.sl (Ty.cons Ty.str (Ty.cons (Ty.int IntKind.i64) (Ty.cons (Ty.int IntKind.i64) (Ty.cons (Ty.int IntKind.i64) Ty.unit)))))]
def tys38 : List Ty := [Ty.bool]
def kds38 : List RK := []
def oks38 : List AT := owns sig38
def E38_4 (v5 : Int) (x0 : List (ByteArray × Int × Int × Int × Unit)) (x1 : List (ByteArray × Int × Int × Int × Unit)) : Env := [(0, PV.a (Atom.sl (Ty.cons Ty.str (Ty.cons (Ty.int IntKind.i64) (Ty.cons (Ty.int IntKind.i64) (Ty.cons (Ty.int IntKind.i64) Ty.unit)))) x0)), (1, PV.a (Atom.sl (Ty.cons Ty.str (Ty.cons (Ty.int IntKind.i64) (Ty.cons (Ty.int IntKind.i64) (Ty.cons (Ty.int IntKind.i64) Ty.unit)))) x1)), (5, PV.a (Atom.val (Value.int IntKind.i64 v5)))]
def L38_4 (v5 : Int) (x0 : List (ByteArray × Int × Int × Int × Unit)) (x1 : List (ByteArray × Int × Int × Int × Unit)) : Heap := []
mutual
def R38 : Nat → List (ByteArray × Int × Int × Int × Unit) → List (ByteArray × Int × Int × Int × Unit) → List Dyn → Prop
  | 0, _, _, _ => False
  | n + 1, x0, x1, ds => (if ((↑(List.length x0) : Int) != (↑(List.length x1) : Int)) = true then (ds = [Dyn.mk Ty.bool Bool.false]) else (R38_4 n (0) (x0) (x1) ds))
def R38_4 : Nat → Int → List (ByteArray × Int × Int × Int × Unit) → List (ByteArray × Int × Int × Int × Unit) → List Dyn → Prop
  | 0, _, _, _, _ => False
  | n + 1, v5, x0, x1, ds => (if (Decidable.decide (v5 < (↑(List.length x0) : Int))) = true then ((0 ≤ v5) ∧ (v5 < (↑(List.length x0) : Int)) ∧ ((0 ≤ v5) ∧ (v5 < (↑(List.length x1) : Int)) ∧ (if (!g63_0 (List.getD x0 (Int.toNat v5) (ByteArray.empty, 0, 0, 0, ())) (List.getD x1 (Int.toNat v5) (ByteArray.empty, 0, 0, 0, ()))) = true then (ds = [Dyn.mk Ty.bool Bool.false]) else ((InR IntKind.i64 (v5 + 1)) ∧ (R38_4 n (v5 + 1) (x0) (x1) ds))))) else (ds = [Dyn.mk Ty.bool Bool.true]))
end
theorem p38_0 (x0 : List (ByteArray × Int × Int × Int × Unit)) (x1 : List (ByteArray × Int × Int × Int × Unit)) : runF tab ext38 false 27 [] 2000 [] oks38 kds38 tys38 Try.f38.results [true] [.code b38] (entE 0 0 sig38 (x0, x1, ())) (entL sig38 (x0, x1, ())) = some ([Dyn.mk Ty.bool Bool.false], [], [((↑(List.length x0) : Int) != (↑(List.length x1) : Int)) = Bool.true]) := by kernel_rfl
theorem p38_1 (x0 : List (ByteArray × Int × Int × Int × Unit)) (x1 : List (ByteArray × Int × Int × Int × Unit)) : Am.runN tab ext38 false 27 [] 2000 [] [] [0, 1, 5] [] [false] [.code b38] (entE 0 0 sig38 (x0, x1, ())) (entL sig38 (x0, x1, ())) = some (cutAt b38 4, E38_4 (0) (x0) (x1), L38_4 (0) (x0) (x1), [((↑(List.length x0) : Int) != (↑(List.length x1) : Int)) = Bool.false]) := by kernel_rfl
theorem p38_2 (v5 : Int) (x0 : List (ByteArray × Int × Int × Int × Unit)) (x1 : List (ByteArray × Int × Int × Int × Unit)) : runF tab ext38 false 27 [] 2000 [] oks38 kds38 tys38 Try.f38.results [true, true] (cutAt b38 4) (E38_4 v5 x0 x1) (L38_4 v5 x0 x1) = some ([Dyn.mk Ty.bool Bool.false], [], [Decidable.decide (v5 < (↑(List.length x0) : Int)) = Bool.true, 0 ≤ v5, v5 < (↑(List.length x0) : Int), 0 ≤ v5, v5 < (↑(List.length x1) : Int), True, (!g63_0 (List.getD x0 (Int.toNat v5) (ByteArray.empty, 0, 0, 0, ())) (List.getD x1 (Int.toNat v5) (ByteArray.empty, 0, 0, 0, ()))) = Bool.true]) := by kernel_rfl
theorem p38_3 (v5 : Int) (x0 : List (ByteArray × Int × Int × Int × Unit)) (x1 : List (ByteArray × Int × Int × Int × Unit)) : Am.runN tab ext38 false 27 [] 2000 [] [] [0, 1, 5] [] [true, false] (cutAt b38 4) (E38_4 v5 x0 x1) (L38_4 v5 x0 x1) = some (cutAt b38 4, E38_4 (v5 + 1) (x0) (x1), L38_4 (v5 + 1) (x0) (x1), [Decidable.decide (v5 < (↑(List.length x0) : Int)) = Bool.true, 0 ≤ v5, v5 < (↑(List.length x0) : Int), 0 ≤ v5, v5 < (↑(List.length x1) : Int), True, (!g63_0 (List.getD x0 (Int.toNat v5) (ByteArray.empty, 0, 0, 0, ())) (List.getD x1 (Int.toNat v5) (ByteArray.empty, 0, 0, 0, ()))) = Bool.false, InR IntKind.i64 (v5 + 1)]) := by kernel_rfl
theorem p38_4 (v5 : Int) (x0 : List (ByteArray × Int × Int × Int × Unit)) (x1 : List (ByteArray × Int × Int × Int × Unit)) : runF tab ext38 false 27 [] 2000 [] oks38 kds38 tys38 Try.f38.results [false] (cutAt b38 4) (E38_4 v5 x0 x1) (L38_4 v5 x0 x1) = some ([Dyn.mk Ty.bool Bool.true], [], [Decidable.decide (v5 < (↑(List.length x0) : Int)) = Bool.false]) := by kernel_rfl
theorem snd38 : ∀ n, (∀ (x0 : List (ByteArray × Int × Int × Int × Unit)) (x1 : List (ByteArray × Int × Int × Int × Unit)) ds, R38 n x0 x1 ds → ∀ K q, AtV Try.prog 38 (PostR kds38 oks38 ds [] [] q K) 27 K q [] [.code b38] (entE 0 0 sig38 (x0, x1, ())) (entL sig38 (x0, x1, ()))) ∧ (∀ (v5 : Int) (x0 : List (ByteArray × Int × Int × Int × Unit)) (x1 : List (ByteArray × Int × Int × Int × Unit)) ds, R38_4 n v5 x0 x1 ds → ∀ K q, AtV Try.prog 38 (PostR kds38 oks38 ds [] [] q K) 27 K q [] (cutAt b38 4) (E38_4 v5 x0 x1) (L38_4 v5 x0 x1)) := by
  intro n
  induction n with
  | zero => exact ⟨fun _ _ _ h => by simp only [R38] at h, fun _ _ _ _ h => by simp only [R38_4] at h⟩
  | succ n ih =>
  obtain ⟨ih, ih4⟩ := ih
  refine ⟨?_, ?_⟩
  · intro x0 x1 ds h K q
    rw [R38] at h
    by_cases b0 : ((↑(List.length x0) : Int) != (↑(List.length x1) : Int)) = true
    · rw [if_pos b0] at h
      subst h
      exact AtV.fin Try.func38 tabOk ext38Ok mixed (p38_0 x0 x1) ⟨b0, trivial⟩
    · rw [if_neg b0] at h
      replace b0 := Bool.eq_false_iff.2 b0
      exact AtV.runN tabOk ext38Ok mixed (p38_1 x0 x1) ⟨b0, trivial⟩ (ih4 _ _ _ _ h K q)

  · intro v5 x0 x1 ds h K q
    rw [R38_4] at h
    by_cases b0 : (Decidable.decide (v5 < (↑(List.length x0) : Int))) = true
    · rw [if_pos b0] at h
      obtain ⟨s0, s1, h⟩ := h
      obtain ⟨s2, s3, h⟩ := h
      by_cases b1 : (!g63_0 (List.getD x0 (Int.toNat v5) (ByteArray.empty, 0, 0, 0, ())) (List.getD x1 (Int.toNat v5) (ByteArray.empty, 0, 0, 0, ()))) = true
      · rw [if_pos b1] at h
        subst h
        exact AtV.fin Try.func38 tabOk ext38Ok mixed (p38_2 v5 x0 x1) ⟨b0, s0, s1, s2, s3, trivial, b1, trivial⟩
      · rw [if_neg b1] at h
        replace b1 := Bool.eq_false_iff.2 b1
        obtain ⟨s4, h⟩ := h
        exact AtV.runN tabOk ext38Ok mixed (p38_3 v5 x0 x1) ⟨b0, s0, s1, s2, s3, trivial, b1, s4, trivial⟩ (ih4 _ _ _ _ h K q)
    · rw [if_neg b0] at h
      replace b0 := Bool.eq_false_iff.2 b0
      subst h
      exact AtV.fin Try.func38 tabOk ext38Ok mixed (p38_4 v5 x0 x1) ⟨b0, trivial⟩



theorem eq38 (x0 x1 : List (ByteArray × Int × Int × Int × Unit)) (hl : x0.length = x1.length) (hm : x0.length ≤ maxLen) : ∀ k i : Nat, i + k = x0.length → R38_4 (k + 1) (i : Int) x0 x1 [⟨.bool, decide (x0.drop i = x1.drop i)⟩] := by
  intro k
  induction k with
  | zero =>
    intro i hi
    have h1 : ¬ (i : Int) < (x0.length : Int) := by omega
    rw [R38_4, if_neg (by simpa using h1), drop_end x0 i (by omega), drop_end x1 i (by omega)]
    simp
  | succ k ih =>
    intro i hi
    have h1 : (i : Int) < (x0.length : Int) := by omega
    rw [R38_4, if_pos (by simpa using h1)]
    refine ⟨by omega, h1, by omega, by omega, ?_⟩
    simp only [Int.toNat_natCast]
    rw [drop_get x0 i (ByteArray.empty, (0 : Int), (0 : Int), (0 : Int), ()) (by omega), drop_get x1 i (ByteArray.empty, (0 : Int), (0 : Int), (0 : Int), ()) (by omega)]
    by_cases he : x0.getD i (ByteArray.empty, (0 : Int), (0 : Int), (0 : Int), ()) = x1.getD i (ByteArray.empty, (0 : Int), (0 : Int), (0 : Int), ())
    · have hd := (eqd63 _ _).2 he
      rw [if_neg (by rw [hd]; simp)]
      refine ⟨inR_up hm (by omega), ?_⟩
      have := ih (i + 1) (by omega)
      simp only [he, List.cons.injEq, true_and]
      exact this
    · have hd : g63_0 (x0.getD i (ByteArray.empty, (0 : Int), (0 : Int), (0 : Int), ())) (x1.getD i (ByteArray.empty, (0 : Int), (0 : Int), (0 : Int), ())) = false :=
        Bool.eq_false_iff.2 fun h => he ((eqd63 _ _).1 h)
      rw [if_pos (by rw [hd]; rfl)]
      simp only [he, List.cons.injEq, false_and, decide_false]

def g38_0 (x0 x1 : List (ByteArray × Int × Int × Int × Unit)) : Bool := decide (x0 = x1)
def P38 (x0 x1 : List (ByteArray × Int × Int × Int × Unit)) : Prop := True
def S38 : Am.Spec := { sig := sig38, pre := fun ⟨x0, x1, _⟩ => P38 x0 x1, res := fun ⟨x0, x1, _⟩ => [⟨Ty.bool, g38_0 x0 x1⟩] }
theorem con38 : Contract Try.prog 38 S38 := contract_of Try.func38 hb38 (Nat.le_of_ble_eq_true (by kernel_rfl)) (fun ⟨x0, x1, _⟩ h hwf K q => by
  refine (snd38 (x0.length + 2)).1 x0 x1 _ ?_ K q
  show R38 (x0.length + 1 + 1) x0 x1 [⟨Ty.bool, decide (x0 = x1)⟩]
  rw [R38]
  by_cases hl : x0.length = x1.length
  · rw [if_neg (by simp [hl])]
    have := eq38 x0 x1 hl hwf.1.1 x0.length 0 (by omega)
    simpa using this
  · rw [if_pos (by simp; omega)]
    have : x0 ≠ x1 := fun h => hl (by rw [h])
    simp [this])

end Go.Proofs.Ytpcfcplggpchjaa

/- Function 39 (laws.eqRope): its runs between cut points. Written by a program of this repo (gen). -/
set_option linter.unusedVariables false
set_option linter.unusedSimpArgs false
set_option maxRecDepth 100000
namespace Go.Proofs.Ytpcfcplggpchjaa
open Go Go.Am Go.Proofs
def ext39 : Ext := []
theorem ext39Ok : ExtOk Try.prog ext39 := trivial

noncomputable def b39 : Code := bodyOf Try.f39
theorem hb39 : Try.f39.body = some b39 := by kernel_rfl
def sig39 : List AT := [AT.v (Ty.cons (Ty.int IntKind.i64) (Ty.cons (Ty.int IntKind.i64) (Ty.cons (Ty.int IntKind.i64) (Ty.cons (Ty.int IntKind.i64) Ty.unit)))), AT.v (Ty.cons (Ty.int IntKind.i64) (Ty.cons (Ty.int IntKind.i64) (Ty.cons (Ty.int IntKind.i64) (Ty.cons (Ty.int IntKind.i64) Ty.unit))))]
def tys39 : List Ty := [Ty.bool]
def kds39 : List RK := []
def oks39 : List AT := owns sig39
def P39 (x0 : Int × Int × Int × Int × Unit) (x1 : Int × Int × Int × Int × Unit) : Prop := True
def g39_0 (x0 : Int × Int × Int × Int × Unit) (x1 : Int × Int × Int × Int × Unit) : Bool := (if (Prod.fst x0 != Prod.fst x1) = true then Bool.false else (if (Prod.fst (Prod.snd x0) != Prod.fst (Prod.snd x1)) = true then Bool.false else (if (Prod.fst (Prod.snd (Prod.snd x0)) != Prod.fst (Prod.snd (Prod.snd x1))) = true then Bool.false else (if (Prod.fst (Prod.snd (Prod.snd (Prod.snd x0))) != Prod.fst (Prod.snd (Prod.snd (Prod.snd x1)))) = true then Bool.false else Bool.true))))
theorem p39_0 (x0 : Int × Int × Int × Int × Unit) (x1 : Int × Int × Int × Int × Unit) : runF tab ext39 false 25 [] 2000 [] oks39 kds39 tys39 Try.f39.results [true] [.code b39] (entE 0 0 sig39 (x0, x1, ())) (entL sig39 (x0, x1, ())) = some ([Dyn.mk Ty.bool Bool.false], [], [(Prod.fst x0 != Prod.fst x1) = Bool.true]) := by kernel_rfl
theorem p39_1 (x0 : Int × Int × Int × Int × Unit) (x1 : Int × Int × Int × Int × Unit) : runF tab ext39 false 25 [] 2000 [] oks39 kds39 tys39 Try.f39.results [false, true] [.code b39] (entE 0 0 sig39 (x0, x1, ())) (entL sig39 (x0, x1, ())) = some ([Dyn.mk Ty.bool Bool.false], [], [(Prod.fst x0 != Prod.fst x1) = Bool.false, (Prod.fst (Prod.snd x0) != Prod.fst (Prod.snd x1)) = Bool.true]) := by kernel_rfl
theorem p39_2 (x0 : Int × Int × Int × Int × Unit) (x1 : Int × Int × Int × Int × Unit) : runF tab ext39 false 25 [] 2000 [] oks39 kds39 tys39 Try.f39.results [false, false, true] [.code b39] (entE 0 0 sig39 (x0, x1, ())) (entL sig39 (x0, x1, ())) = some ([Dyn.mk Ty.bool Bool.false], [], [(Prod.fst x0 != Prod.fst x1) = Bool.false, (Prod.fst (Prod.snd x0) != Prod.fst (Prod.snd x1)) = Bool.false, (Prod.fst (Prod.snd (Prod.snd x0)) != Prod.fst (Prod.snd (Prod.snd x1))) = Bool.true]) := by kernel_rfl
theorem p39_3 (x0 : Int × Int × Int × Int × Unit) (x1 : Int × Int × Int × Int × Unit) : runF tab ext39 false 25 [] 2000 [] oks39 kds39 tys39 Try.f39.results [false, false, false, true] [.code b39] (entE 0 0 sig39 (x0, x1, ())) (entL sig39 (x0, x1, ())) = some ([Dyn.mk Ty.bool Bool.false], [], [(Prod.fst x0 != Prod.fst x1) = Bool.false, (Prod.fst (Prod.snd x0) != Prod.fst (Prod.snd x1)) = Bool.false, (Prod.fst (Prod.snd (Prod.snd x0)) != Prod.fst (Prod.snd (Prod.snd x1))) = Bool.false, (Prod.fst (Prod.snd (Prod.snd (Prod.snd x0))) != Prod.fst (Prod.snd (Prod.snd (Prod.snd x1)))) = Bool.true]) := by kernel_rfl
theorem p39_4 (x0 : Int × Int × Int × Int × Unit) (x1 : Int × Int × Int × Int × Unit) : runF tab ext39 false 25 [] 2000 [] oks39 kds39 tys39 Try.f39.results [false, false, false, false] [.code b39] (entE 0 0 sig39 (x0, x1, ())) (entL sig39 (x0, x1, ())) = some ([Dyn.mk Ty.bool Bool.true], [], [(Prod.fst x0 != Prod.fst x1) = Bool.false, (Prod.fst (Prod.snd x0) != Prod.fst (Prod.snd x1)) = Bool.false, (Prod.fst (Prod.snd (Prod.snd x0)) != Prod.fst (Prod.snd (Prod.snd x1))) = Bool.false, (Prod.fst (Prod.snd (Prod.snd (Prod.snd x0))) != Prod.fst (Prod.snd (Prod.snd (Prod.snd x1)))) = Bool.false]) := by kernel_rfl
theorem at39 (x0 : Int × Int × Int × Int × Unit) (x1 : Int × Int × Int × Int × Unit) (h : P39 x0 x1) (K : Ctx) (q : Nat → Value) : AtV Try.prog 39 (PostR kds39 oks39 [⟨Ty.bool, g39_0 x0 x1⟩] [] [] q K) 25 K q [] [.code b39] (entE 0 0 sig39 (x0, x1, ())) (entL sig39 (x0, x1, ())) := by
  unfold P39 at h
  unfold g39_0
  by_cases b0 : (Prod.fst x0 != Prod.fst x1) = true
  · try simp only [if_pos b0] at h ⊢
    exact AtV.fin Try.func39 tabOk ext39Ok mixed (p39_0 x0 x1) ⟨b0, trivial⟩
  · try simp only [if_neg b0] at h ⊢
    replace b0 := Bool.eq_false_iff.2 b0
    by_cases b1 : (Prod.fst (Prod.snd x0) != Prod.fst (Prod.snd x1)) = true
    · try simp only [if_pos b1] at h ⊢
      exact AtV.fin Try.func39 tabOk ext39Ok mixed (p39_1 x0 x1) ⟨b0, b1, trivial⟩
    · try simp only [if_neg b1] at h ⊢
      replace b1 := Bool.eq_false_iff.2 b1
      by_cases b2 : (Prod.fst (Prod.snd (Prod.snd x0)) != Prod.fst (Prod.snd (Prod.snd x1))) = true
      · try simp only [if_pos b2] at h ⊢
        exact AtV.fin Try.func39 tabOk ext39Ok mixed (p39_2 x0 x1) ⟨b0, b1, b2, trivial⟩
      · try simp only [if_neg b2] at h ⊢
        replace b2 := Bool.eq_false_iff.2 b2
        by_cases b3 : (Prod.fst (Prod.snd (Prod.snd (Prod.snd x0))) != Prod.fst (Prod.snd (Prod.snd (Prod.snd x1)))) = true
        · try simp only [if_pos b3] at h ⊢
          exact AtV.fin Try.func39 tabOk ext39Ok mixed (p39_3 x0 x1) ⟨b0, b1, b2, b3, trivial⟩
        · try simp only [if_neg b3] at h ⊢
          replace b3 := Bool.eq_false_iff.2 b3
          exact AtV.fin Try.func39 tabOk ext39Ok mixed (p39_4 x0 x1) ⟨b0, b1, b2, b3, trivial⟩

def S39 : Am.Spec := { sig := sig39, pre := fun ⟨x0, x1, _⟩ => P39 x0 x1, res := fun ⟨x0, x1, _⟩ => [⟨Ty.bool, g39_0 x0 x1⟩], kds := kds39 }
theorem con39 : Contract Try.prog 39 S39 := contract_of Try.func39 hb39 (Nat.le_of_ble_eq_true (by kernel_rfl)) (fun ⟨x0, x1, _⟩ h _ K q => at39 x0 x1 h K q)


end Go.Proofs.Ytpcfcplggpchjaa

/- Function 64 (laws.eqHour): its runs between cut points. Written by a program of this repo (gen). -/
set_option linter.unusedVariables false
set_option linter.unusedSimpArgs false
set_option maxRecDepth 100000
namespace Go.Proofs.Ytpcfcplggpchjaa
open Go Go.Am Go.Proofs
def ext64 : Ext := []
theorem ext64Ok : ExtOk Try.prog ext64 := trivial

noncomputable def b64 : Code := bodyOf Try.f64
theorem hb64 : Try.f64.body = some b64 := by kernel_rfl
def sig64 : List AT := [AT.v (Ty.cons (Ty.int IntKind.i64) (Ty.cons (Ty.int IntKind.i64) (Ty.cons (Ty.int IntKind.i64) Ty.unit))), AT.v (Ty.cons (Ty.int IntKind.i64) (Ty.cons (Ty.int IntKind.i64) (Ty.cons (Ty.int IntKind.i64) Ty.unit)))]
def tys64 : List Ty := [Ty.bool]
def kds64 : List RK := []
def oks64 : List AT := owns sig64
def P64 (x0 : Int × Int × Int × Unit) (x1 : Int × Int × Int × Unit) : Prop := True
def g64_0 (x0 : Int × Int × Int × Unit) (x1 : Int × Int × Int × Unit) : Bool := (if (Prod.fst x0 != Prod.fst x1) = true then Bool.false else (if (Prod.fst (Prod.snd x0) != Prod.fst (Prod.snd x1)) = true then Bool.false else (if (Prod.fst (Prod.snd (Prod.snd x0)) != Prod.fst (Prod.snd (Prod.snd x1))) = true then Bool.false else Bool.true)))
theorem p64_0 (x0 : Int × Int × Int × Unit) (x1 : Int × Int × Int × Unit) : runF tab ext64 false 20 [] 2000 [] oks64 kds64 tys64 Try.f64.results [true] [.code b64] (entE 0 0 sig64 (x0, x1, ())) (entL sig64 (x0, x1, ())) = some ([Dyn.mk Ty.bool Bool.false], [], [(Prod.fst x0 != Prod.fst x1) = Bool.true]) := by kernel_rfl
theorem p64_1 (x0 : Int × Int × Int × Unit) (x1 : Int × Int × Int × Unit) : runF tab ext64 false 20 [] 2000 [] oks64 kds64 tys64 Try.f64.results [false, true] [.code b64] (entE 0 0 sig64 (x0, x1, ())) (entL sig64 (x0, x1, ())) = some ([Dyn.mk Ty.bool Bool.false], [], [(Prod.fst x0 != Prod.fst x1) = Bool.false, (Prod.fst (Prod.snd x0) != Prod.fst (Prod.snd x1)) = Bool.true]) := by kernel_rfl
theorem p64_2 (x0 : Int × Int × Int × Unit) (x1 : Int × Int × Int × Unit) : runF tab ext64 false 20 [] 2000 [] oks64 kds64 tys64 Try.f64.results [false, false, true] [.code b64] (entE 0 0 sig64 (x0, x1, ())) (entL sig64 (x0, x1, ())) = some ([Dyn.mk Ty.bool Bool.false], [], [(Prod.fst x0 != Prod.fst x1) = Bool.false, (Prod.fst (Prod.snd x0) != Prod.fst (Prod.snd x1)) = Bool.false, (Prod.fst (Prod.snd (Prod.snd x0)) != Prod.fst (Prod.snd (Prod.snd x1))) = Bool.true]) := by kernel_rfl
theorem p64_3 (x0 : Int × Int × Int × Unit) (x1 : Int × Int × Int × Unit) : runF tab ext64 false 20 [] 2000 [] oks64 kds64 tys64 Try.f64.results [false, false, false] [.code b64] (entE 0 0 sig64 (x0, x1, ())) (entL sig64 (x0, x1, ())) = some ([Dyn.mk Ty.bool Bool.true], [], [(Prod.fst x0 != Prod.fst x1) = Bool.false, (Prod.fst (Prod.snd x0) != Prod.fst (Prod.snd x1)) = Bool.false, (Prod.fst (Prod.snd (Prod.snd x0)) != Prod.fst (Prod.snd (Prod.snd x1))) = Bool.false]) := by kernel_rfl
theorem at64 (x0 : Int × Int × Int × Unit) (x1 : Int × Int × Int × Unit) (h : P64 x0 x1) (K : Ctx) (q : Nat → Value) : AtV Try.prog 64 (PostR kds64 oks64 [⟨Ty.bool, g64_0 x0 x1⟩] [] [] q K) 20 K q [] [.code b64] (entE 0 0 sig64 (x0, x1, ())) (entL sig64 (x0, x1, ())) := by
  unfold P64 at h
  unfold g64_0
  by_cases b0 : (Prod.fst x0 != Prod.fst x1) = true
  · try simp only [if_pos b0] at h ⊢
    exact AtV.fin Try.func64 tabOk ext64Ok mixed (p64_0 x0 x1) ⟨b0, trivial⟩
  · try simp only [if_neg b0] at h ⊢
    replace b0 := Bool.eq_false_iff.2 b0
    by_cases b1 : (Prod.fst (Prod.snd x0) != Prod.fst (Prod.snd x1)) = true
    · try simp only [if_pos b1] at h ⊢
      exact AtV.fin Try.func64 tabOk ext64Ok mixed (p64_1 x0 x1) ⟨b0, b1, trivial⟩
    · try simp only [if_neg b1] at h ⊢
      replace b1 := Bool.eq_false_iff.2 b1
      by_cases b2 : (Prod.fst (Prod.snd (Prod.snd x0)) != Prod.fst (Prod.snd (Prod.snd x1))) = true
      · try simp only [if_pos b2] at h ⊢
        exact AtV.fin Try.func64 tabOk ext64Ok mixed (p64_2 x0 x1) ⟨b0, b1, b2, trivial⟩
      · try simp only [if_neg b2] at h ⊢
        replace b2 := Bool.eq_false_iff.2 b2
        exact AtV.fin Try.func64 tabOk ext64Ok mixed (p64_3 x0 x1) ⟨b0, b1, b2, trivial⟩

def S64 : Am.Spec := { sig := sig64, pre := fun ⟨x0, x1, _⟩ => P64 x0 x1, res := fun ⟨x0, x1, _⟩ => [⟨Ty.bool, g64_0 x0 x1⟩], kds := kds64 }
theorem con64 : Contract Try.prog 64 S64 := contract_of Try.func64 hb64 (Nat.le_of_ble_eq_true (by kernel_rfl)) (fun ⟨x0, x1, _⟩ h _ K q => at64 x0 x1 h K q)


theorem eqd64 (x y : (Int × Int × Int × Unit)) : g64_0 x y = true ↔ x = y := by
  obtain ⟨a, b, c, u⟩ := x
  obtain ⟨a', b', c', u'⟩ := y
  unfold g64_0
  simp only [Bool.not_eq_true', bytes_ne, bne_iff_ne, ne_eq, ite_not]
  by_cases h0 : a = a'
  · by_cases h1 : b = b'
    · by_cases h2 : c = c'
      · simp [h0, h1, h2]
      · simp [h0, h1, h2]
    · simp [h0, h1]
  · simp [h0]

end Go.Proofs.Ytpcfcplggpchjaa

/- Function 40 (laws.eqHourS): its runs between cut points. Written by a program of this repo (gen). -/
set_option linter.unusedVariables false
set_option linter.unusedSimpArgs false
set_option maxRecDepth 100000
namespace Go.Proofs.Ytpcfcplggpchjaa
open Go Go.Am Go.Proofs
def ext40 : Ext := [(64, S64)]
theorem call40_64 : Callable Try.prog 64 := ⟨Try.f64, Try.func64, by kernel_rfl, by kernel_rfl⟩
theorem ext40Ok : ExtOk Try.prog ext40 := ⟨⟨call40_64, con64⟩, trivial⟩

noncomputable def b40 : Code := bodyOf Try.f40
theorem hb40 : Try.f40.body = some b40 := by kernel_rfl
def sig40 : List AT := [AT.v (Ty.sl (Ty.cons (Ty.int IntKind.i64) (Ty.cons (Ty.int IntKind.i64) (Ty.cons (Ty.int IntKind.i64) Ty.unit)))), AT.v (Ty.sl (Ty.cons (Ty.int IntKind.i64) (Ty.cons (Ty.int IntKind.i64) (Ty.cons (Ty.int IntKind.i64) Ty.unit))))]
def tys40 : List Ty := [Ty.bool]
def kds40 : List RK := []
def oks40 : List AT := owns sig40
def E40_4 (v5 : Int) (x0 : List (Int × Int × Int × Unit)) (x1 : List (Int × Int × Int × Unit)) : Env := [(0, PV.a (Atom.sl (Ty.cons (Ty.int IntKind.i64) (Ty.cons (Ty.int IntKind.i64) (Ty.cons (Ty.int IntKind.i64) Ty.unit))) x0)), (1, PV.a (Atom.sl (Ty.cons (Ty.int IntKind.i64) (Ty.cons (Ty.int IntKind.i64) (Ty.cons (Ty.int IntKind.i64) Ty.unit))) x1)), (5, PV.a (Atom.val (Value.int IntKind.i64 v5)))]
def L40_4 (v5 : Int) (x0 : List (Int × Int × Int × Unit)) (x1 : List (Int × Int × Int × Unit)) : Heap := []
mutual
def R40 : Nat → List (Int × Int × Int × Unit) → List (Int × Int × Int × Unit) → List Dyn → Prop
  | 0, _, _, _ => False
  | n + 1, x0, x1, ds => (if ((↑(List.length x0) : Int) != (↑(List.length x1) : Int)) = true then (ds = [Dyn.mk Ty.bool Bool.false]) else (R40_4 n (0) (x0) (x1) ds))
def R40_4 : Nat → Int → List (Int × Int × Int × Unit) → List (Int × Int × Int × Unit) → List Dyn → Prop
  | 0, _, _, _, _ => False
  | n + 1, v5, x0, x1, ds => (if (Decidable.decide (v5 < (↑(List.length x0) : Int))) = true then ((0 ≤ v5) ∧ (v5 < (↑(List.length x0) : Int)) ∧ ((0 ≤ v5) ∧ (v5 < (↑(List.length x1) : Int)) ∧ (if (!g64_0 (List.getD x0 (Int.toNat v5) (0, 0, 0, ())) (List.getD x1 (Int.toNat v5) (0, 0, 0, ()))) = true then (ds = [Dyn.mk Ty.bool Bool.false]) else ((InR IntKind.i64 (v5 + 1)) ∧ (R40_4 n (v5 + 1) (x0) (x1) ds))))) else (ds = [Dyn.mk Ty.bool Bool.true]))
end
theorem p40_0 (x0 : List (Int × Int × Int × Unit)) (x1 : List (Int × Int × Int × Unit)) : runF tab ext40 false 27 [] 2000 [] oks40 kds40 tys40 Try.f40.results [true] [.code b40] (entE 0 0 sig40 (x0, x1, ())) (entL sig40 (x0, x1, ())) = some ([Dyn.mk Ty.bool Bool.false], [], [((↑(List.length x0) : Int) != (↑(List.length x1) : Int)) = Bool.true]) := by kernel_rfl
theorem p40_1 (x0 : List (Int × Int × Int × Unit)) (x1 : List (Int × Int × Int × Unit)) : Am.runN tab ext40 false 27 [] 2000 [] [] [0, 1, 5] [] [false] [.code b40] (entE 0 0 sig40 (x0, x1, ())) (entL sig40 (x0, x1, ())) = some (cutAt b40 4, E40_4 (0) (x0) (x1), L40_4 (0) (x0) (x1), [((↑(List.length x0) : Int) != (↑(List.length x1) : Int)) = Bool.false]) := by kernel_rfl
theorem p40_2 (v5 : Int) (x0 : List (Int × Int × Int × Unit)) (x1 : List (Int × Int × Int × Unit)) : runF tab ext40 false 27 [] 2000 [] oks40 kds40 tys40 Try.f40.results [true, true] (cutAt b40 4) (E40_4 v5 x0 x1) (L40_4 v5 x0 x1) = some ([Dyn.mk Ty.bool Bool.false], [], [Decidable.decide (v5 < (↑(List.length x0) : Int)) = Bool.true, 0 ≤ v5, v5 < (↑(List.length x0) : Int), 0 ≤ v5, v5 < (↑(List.length x1) : Int), True, (!g64_0 (List.getD x0 (Int.toNat v5) (0, 0, 0, ())) (List.getD x1 (Int.toNat v5) (0, 0, 0, ()))) = Bool.true]) := by kernel_rfl
theorem p40_3 (v5 : Int) (x0 : List (Int × Int × Int × Unit)) (x1 : List (Int × Int × Int × Unit)) : Am.runN tab ext40 false 27 [] 2000 [] [] [0, 1, 5] [] [true, false] (cutAt b40 4) (E40_4 v5 x0 x1) (L40_4 v5 x0 x1) = some (cutAt b40 4, E40_4 (v5 + 1) (x0) (x1), L40_4 (v5 + 1) (x0) (x1), [Decidable.decide (v5 < (↑(List.length x0) : Int)) = Bool.true, 0 ≤ v5, v5 < (↑(List.length x0) : Int), 0 ≤ v5, v5 < (↑(List.length x1) : Int), True, (!g64_0 (List.getD x0 (Int.toNat v5) (0, 0, 0, ())) (List.getD x1 (Int.toNat v5) (0, 0, 0, ()))) = Bool.false, InR IntKind.i64 (v5 + 1)]) := by kernel_rfl
theorem p40_4 (v5 : Int) (x0 : List (Int × Int × Int × Unit)) (x1 : List (Int × Int × Int × Unit)) : runF tab ext40 false 27 [] 2000 [] oks40 kds40 tys40 Try.f40.results [false] (cutAt b40 4) (E40_4 v5 x0 x1) (L40_4 v5 x0 x1) = some ([Dyn.mk Ty.bool Bool.true], [], [Decidable.decide (v5 < (↑(List.length x0) : Int)) = Bool.false]) := by kernel_rfl
theorem snd40 : ∀ n, (∀ (x0 : List (Int × Int × Int × Unit)) (x1 : List (Int × Int × Int × Unit)) ds, R40 n x0 x1 ds → ∀ K q, AtV Try.prog 40 (PostR kds40 oks40 ds [] [] q K) 27 K q [] [.code b40] (entE 0 0 sig40 (x0, x1, ())) (entL sig40 (x0, x1, ()))) ∧ (∀ (v5 : Int) (x0 : List (Int × Int × Int × Unit)) (x1 : List (Int × Int × Int × Unit)) ds, R40_4 n v5 x0 x1 ds → ∀ K q, AtV Try.prog 40 (PostR kds40 oks40 ds [] [] q K) 27 K q [] (cutAt b40 4) (E40_4 v5 x0 x1) (L40_4 v5 x0 x1)) := by
  intro n
  induction n with
  | zero => exact ⟨fun _ _ _ h => by simp only [R40] at h, fun _ _ _ _ h => by simp only [R40_4] at h⟩
  | succ n ih =>
  obtain ⟨ih, ih4⟩ := ih
  refine ⟨?_, ?_⟩
  · intro x0 x1 ds h K q
    rw [R40] at h
    by_cases b0 : ((↑(List.length x0) : Int) != (↑(List.length x1) : Int)) = true
    · rw [if_pos b0] at h
      subst h
      exact AtV.fin Try.func40 tabOk ext40Ok mixed (p40_0 x0 x1) ⟨b0, trivial⟩
    · rw [if_neg b0] at h
      replace b0 := Bool.eq_false_iff.2 b0
      exact AtV.runN tabOk ext40Ok mixed (p40_1 x0 x1) ⟨b0, trivial⟩ (ih4 _ _ _ _ h K q)

  · intro v5 x0 x1 ds h K q
    rw [R40_4] at h
    by_cases b0 : (Decidable.decide (v5 < (↑(List.length x0) : Int))) = true
    · rw [if_pos b0] at h
      obtain ⟨s0, s1, h⟩ := h
      obtain ⟨s2, s3, h⟩ := h
      by_cases b1 : (!g64_0 (List.getD x0 (Int.toNat v5) (0, 0, 0, ())) (List.getD x1 (Int.toNat v5) (0, 0, 0, ()))) = true
      · rw [if_pos b1] at h
        subst h
        exact AtV.fin Try.func40 tabOk ext40Ok mixed (p40_2 v5 x0 x1) ⟨b0, s0, s1, s2, s3, trivial, b1, trivial⟩
      · rw [if_neg b1] at h
        replace b1 := Bool.eq_false_iff.2 b1
        obtain ⟨s4, h⟩ := h
        exact AtV.runN tabOk ext40Ok mixed (p40_3 v5 x0 x1) ⟨b0, s0, s1, s2, s3, trivial, b1, s4, trivial⟩ (ih4 _ _ _ _ h K q)
    · rw [if_neg b0] at h
      replace b0 := Bool.eq_false_iff.2 b0
      subst h
      exact AtV.fin Try.func40 tabOk ext40Ok mixed (p40_4 v5 x0 x1) ⟨b0, trivial⟩



theorem eq40 (x0 x1 : List (Int × Int × Int × Unit)) (hl : x0.length = x1.length) (hm : x0.length ≤ maxLen) : ∀ k i : Nat, i + k = x0.length → R40_4 (k + 1) (i : Int) x0 x1 [⟨.bool, decide (x0.drop i = x1.drop i)⟩] := by
  intro k
  induction k with
  | zero =>
    intro i hi
    have h1 : ¬ (i : Int) < (x0.length : Int) := by omega
    rw [R40_4, if_neg (by simpa using h1), drop_end x0 i (by omega), drop_end x1 i (by omega)]
    simp
  | succ k ih =>
    intro i hi
    have h1 : (i : Int) < (x0.length : Int) := by omega
    rw [R40_4, if_pos (by simpa using h1)]
    refine ⟨by omega, h1, by omega, by omega, ?_⟩
    simp only [Int.toNat_natCast]
    rw [drop_get x0 i ((0 : Int), (0 : Int), (0 : Int), ()) (by omega), drop_get x1 i ((0 : Int), (0 : Int), (0 : Int), ()) (by omega)]
    by_cases he : x0.getD i ((0 : Int), (0 : Int), (0 : Int), ()) = x1.getD i ((0 : Int), (0 : Int), (0 : Int), ())
    · have hd := (eqd64 _ _).2 he
      rw [if_neg (by rw [hd]; simp)]
      refine ⟨inR_up hm (by omega), ?_⟩
      have := ih (i + 1) (by omega)
      simp only [he, List.cons.injEq, true_and]
      exact this
    · have hd : g64_0 (x0.getD i ((0 : Int), (0 : Int), (0 : Int), ())) (x1.getD i ((0 : Int), (0 : Int), (0 : Int), ())) = false :=
        Bool.eq_false_iff.2 fun h => he ((eqd64 _ _).1 h)
      rw [if_pos (by rw [hd]; rfl)]
      simp only [he, List.cons.injEq, false_and, decide_false]

def g40_0 (x0 x1 : List (Int × Int × Int × Unit)) : Bool := decide (x0 = x1)
def P40 (x0 x1 : List (Int × Int × Int × Unit)) : Prop := True
def S40 : Am.Spec := { sig := sig40, pre := fun ⟨x0, x1, _⟩ => P40 x0 x1, res := fun ⟨x0, x1, _⟩ => [⟨Ty.bool, g40_0 x0 x1⟩] }
theorem con40 : Contract Try.prog 40 S40 := contract_of Try.func40 hb40 (Nat.le_of_ble_eq_true (by kernel_rfl)) (fun ⟨x0, x1, _⟩ h hwf K q => by
  refine (snd40 (x0.length + 2)).1 x0 x1 _ ?_ K q
  show R40 (x0.length + 1 + 1) x0 x1 [⟨Ty.bool, decide (x0 = x1)⟩]
  rw [R40]
  by_cases hl : x0.length = x1.length
  · rw [if_neg (by simp [hl])]
    have := eq40 x0 x1 hl hwf.1.1 x0.length 0 (by omega)
    simpa using this
  · rw [if_pos (by simp; omega)]
    have : x0 ≠ x1 := fun h => hl (by rw [h])
    simp [this])

end Go.Proofs.Ytpcfcplggpchjaa

/- Function 65 (laws.eqLimit): its runs between cut points. Written by a program of this repo (gen). -/
set_option linter.unusedVariables false
set_option linter.unusedSimpArgs false
set_option maxRecDepth 100000
namespace Go.Proofs.Ytpcfcplggpchjaa
open Go Go.Am Go.Proofs
def ext65 : Ext := []
theorem ext65Ok : ExtOk Try.prog ext65 := trivial

noncomputable def b65 : Code := bodyOf Try.f65
theorem hb65 : Try.f65.body = some b65 := by kernel_rfl
def sig65 : List AT := [AT.v (Ty.cons (Ty.int IntKind.i64) (Ty.cons (Ty.int IntKind.i64) (Ty.cons (Ty.int IntKind.i64) Ty.unit))), AT.v (Ty.cons (Ty.int IntKind.i64) (Ty.cons (Ty.int IntKind.i64) (Ty.cons (Ty.int IntKind.i64) Ty.unit)))]
def tys65 : List Ty := [Ty.bool]
def kds65 : List RK := []
def oks65 : List AT := owns sig65
def P65 (x0 : Int × Int × Int × Unit) (x1 : Int × Int × Int × Unit) : Prop := True
def g65_0 (x0 : Int × Int × Int × Unit) (x1 : Int × Int × Int × Unit) : Bool := (if (Prod.fst x0 != Prod.fst x1) = true then Bool.false else (if (Prod.fst (Prod.snd x0) != Prod.fst (Prod.snd x1)) = true then Bool.false else (if (Prod.fst (Prod.snd (Prod.snd x0)) != Prod.fst (Prod.snd (Prod.snd x1))) = true then Bool.false else Bool.true)))
theorem p65_0 (x0 : Int × Int × Int × Unit) (x1 : Int × Int × Int × Unit) : runF tab ext65 false 20 [] 2000 [] oks65 kds65 tys65 Try.f65.results [true] [.code b65] (entE 0 0 sig65 (x0, x1, ())) (entL sig65 (x0, x1, ())) = some ([Dyn.mk Ty.bool Bool.false], [], [(Prod.fst x0 != Prod.fst x1) = Bool.true]) := by kernel_rfl
theorem p65_1 (x0 : Int × Int × Int × Unit) (x1 : Int × Int × Int × Unit) : runF tab ext65 false 20 [] 2000 [] oks65 kds65 tys65 Try.f65.results [false, true] [.code b65] (entE 0 0 sig65 (x0, x1, ())) (entL sig65 (x0, x1, ())) = some ([Dyn.mk Ty.bool Bool.false], [], [(Prod.fst x0 != Prod.fst x1) = Bool.false, (Prod.fst (Prod.snd x0) != Prod.fst (Prod.snd x1)) = Bool.true]) := by kernel_rfl
theorem p65_2 (x0 : Int × Int × Int × Unit) (x1 : Int × Int × Int × Unit) : runF tab ext65 false 20 [] 2000 [] oks65 kds65 tys65 Try.f65.results [false, false, true] [.code b65] (entE 0 0 sig65 (x0, x1, ())) (entL sig65 (x0, x1, ())) = some ([Dyn.mk Ty.bool Bool.false], [], [(Prod.fst x0 != Prod.fst x1) = Bool.false, (Prod.fst (Prod.snd x0) != Prod.fst (Prod.snd x1)) = Bool.false, (Prod.fst (Prod.snd (Prod.snd x0)) != Prod.fst (Prod.snd (Prod.snd x1))) = Bool.true]) := by kernel_rfl
theorem p65_3 (x0 : Int × Int × Int × Unit) (x1 : Int × Int × Int × Unit) : runF tab ext65 false 20 [] 2000 [] oks65 kds65 tys65 Try.f65.results [false, false, false] [.code b65] (entE 0 0 sig65 (x0, x1, ())) (entL sig65 (x0, x1, ())) = some ([Dyn.mk Ty.bool Bool.true], [], [(Prod.fst x0 != Prod.fst x1) = Bool.false, (Prod.fst (Prod.snd x0) != Prod.fst (Prod.snd x1)) = Bool.false, (Prod.fst (Prod.snd (Prod.snd x0)) != Prod.fst (Prod.snd (Prod.snd x1))) = Bool.false]) := by kernel_rfl
theorem at65 (x0 : Int × Int × Int × Unit) (x1 : Int × Int × Int × Unit) (h : P65 x0 x1) (K : Ctx) (q : Nat → Value) : AtV Try.prog 65 (PostR kds65 oks65 [⟨Ty.bool, g65_0 x0 x1⟩] [] [] q K) 20 K q [] [.code b65] (entE 0 0 sig65 (x0, x1, ())) (entL sig65 (x0, x1, ())) := by
  unfold P65 at h
  unfold g65_0
  by_cases b0 : (Prod.fst x0 != Prod.fst x1) = true
  · try simp only [if_pos b0] at h ⊢
    exact AtV.fin Try.func65 tabOk ext65Ok mixed (p65_0 x0 x1) ⟨b0, trivial⟩
  · try simp only [if_neg b0] at h ⊢
    replace b0 := Bool.eq_false_iff.2 b0
    by_cases b1 : (Prod.fst (Prod.snd x0) != Prod.fst (Prod.snd x1)) = true
    · try simp only [if_pos b1] at h ⊢
      exact AtV.fin Try.func65 tabOk ext65Ok mixed (p65_1 x0 x1) ⟨b0, b1, trivial⟩
    · try simp only [if_neg b1] at h ⊢
      replace b1 := Bool.eq_false_iff.2 b1
      by_cases b2 : (Prod.fst (Prod.snd (Prod.snd x0)) != Prod.fst (Prod.snd (Prod.snd x1))) = true
      · try simp only [if_pos b2] at h ⊢
        exact AtV.fin Try.func65 tabOk ext65Ok mixed (p65_2 x0 x1) ⟨b0, b1, b2, trivial⟩
      · try simp only [if_neg b2] at h ⊢
        replace b2 := Bool.eq_false_iff.2 b2
        exact AtV.fin Try.func65 tabOk ext65Ok mixed (p65_3 x0 x1) ⟨b0, b1, b2, trivial⟩

def S65 : Am.Spec := { sig := sig65, pre := fun ⟨x0, x1, _⟩ => P65 x0 x1, res := fun ⟨x0, x1, _⟩ => [⟨Ty.bool, g65_0 x0 x1⟩], kds := kds65 }
theorem con65 : Contract Try.prog 65 S65 := contract_of Try.func65 hb65 (Nat.le_of_ble_eq_true (by kernel_rfl)) (fun ⟨x0, x1, _⟩ h _ K q => at65 x0 x1 h K q)


theorem eqd65 (x y : (Int × Int × Int × Unit)) : g65_0 x y = true ↔ x = y := by
  obtain ⟨a, b, c, u⟩ := x
  obtain ⟨a', b', c', u'⟩ := y
  unfold g65_0
  simp only [Bool.not_eq_true', bytes_ne, bne_iff_ne, ne_eq, ite_not]
  by_cases h0 : a = a'
  · by_cases h1 : b = b'
    · by_cases h2 : c = c'
      · simp [h0, h1, h2]
      · simp [h0, h1, h2]
    · simp [h0, h1]
  · simp [h0]

end Go.Proofs.Ytpcfcplggpchjaa

/- Function 41 (laws.eqLimitS): its runs between cut points. Written by a program of this repo (gen). -/
set_option linter.unusedVariables false
set_option linter.unusedSimpArgs false
set_option maxRecDepth 100000
namespace Go.Proofs.Ytpcfcplggpchjaa
open Go Go.Am Go.Proofs
def ext41 : Ext := [(65, S65)]
theorem call41_65 : Callable Try.prog 65 := ⟨Try.f65, Try.func65, by kernel_rfl, by kernel_rfl⟩
theorem ext41Ok : ExtOk Try.prog ext41 := ⟨⟨call41_65, con65⟩, trivial⟩

noncomputable def b41 : Code := bodyOf Try.f41
theorem hb41 : Try.f41.body = some b41 := by kernel_rfl
def sig41 : List AT := [AT.v (Ty.sl (Ty.cons (Ty.int IntKind.i64) (Ty.cons (Ty.int IntKind.i64) (Ty.cons (Ty.int IntKind.i64) Ty.unit)))), AT.v (Ty.sl (Ty.cons (Ty.int IntKind.i64) (Ty.cons (Ty.int IntKind.i64) (Ty.cons (Ty.int IntKind.i64) Ty.unit))))]
def tys41 : List Ty := [Ty.bool]
def kds41 : List RK := []
def oks41 : List AT := owns sig41
def E41_4 (v5 : Int) (x0 : List (Int × Int × Int × Unit)) (x1 : List (Int × Int × Int × Unit)) : Env := [(0, PV.a (Atom.sl (Ty.cons (Ty.int IntKind.i64) (Ty.cons (Ty.int IntKind.i64) (Ty.cons (Ty.int IntKind.i64) Ty.unit))) x0)), (1, PV.a (Atom.sl (Ty.cons (Ty.int IntKind.i64) (Ty.cons (Ty.int IntKind.i64) (Ty.cons (Ty.int IntKind.i64) Ty.unit))) x1)), (5, PV.a (Atom.val (Value.int IntKind.i64 v5)))]
def L41_4 (v5 : Int) (x0 : List (Int × Int × Int × Unit)) (x1 : List (Int × Int × Int × Unit)) : Heap := []
mutual
def R41 : Nat → List (Int × Int × Int × Unit) → List (Int × Int × Int × Unit) → List Dyn → Prop
  | 0, _, _, _ => False
  | n + 1, x0, x1, ds => (if ((↑(List.length x0) : Int) != (↑(List.length x1) : Int)) = true then (ds = [Dyn.mk Ty.bool Bool.false]) else (R41_4 n (0) (x0) (x1) ds))
def R41_4 : Nat → Int → List (Int × Int × Int × Unit) → List (Int × Int × Int × Unit) → List Dyn → Prop
  | 0, _, _, _, _ => False
  | n + 1, v5, x0, x1, ds => (if (Decidable.decide (v5 < (↑(List.length x0) : Int))) = true then ((0 ≤ v5) ∧ (v5 < (↑(List.length x0) : Int)) ∧ ((0 ≤ v5) ∧ (v5 < (↑(List.length x1) : Int)) ∧ (if (!g65_0 (List.getD x0 (Int.toNat v5) (0, 0, 0, ())) (List.getD x1 (Int.toNat v5) (0, 0, 0, ()))) = true then (ds = [Dyn.mk Ty.bool Bool.false]) else ((InR IntKind.i64 (v5 + 1)) ∧ (R41_4 n (v5 + 1) (x0) (x1) ds))))) else (ds = [Dyn.mk Ty.bool Bool.true]))
end
theorem p41_0 (x0 : List (Int × Int × Int × Unit)) (x1 : List (Int × Int × Int × Unit)) : runF tab ext41 false 27 [] 2000 [] oks41 kds41 tys41 Try.f41.results [true] [.code b41] (entE 0 0 sig41 (x0, x1, ())) (entL sig41 (x0, x1, ())) = some ([Dyn.mk Ty.bool Bool.false], [], [((↑(List.length x0) : Int) != (↑(List.length x1) : Int)) = Bool.true]) := by kernel_rfl
theorem p41_1 (x0 : List (Int × Int × Int × Unit)) (x1 : List (Int × Int × Int × Unit)) : Am.runN tab ext41 false 27 [] 2000 [] [] [0, 1, 5] [] [false] [.code b41] (entE 0 0 sig41 (x0, x1, ())) (entL sig41 (x0, x1, ())) = some (cutAt b41 4, E41_4 (0) (x0) (x1), L41_4 (0) (x0) (x1), [((↑(List.length x0) : Int) != (↑(List.length x1) : Int)) = Bool.false]) := by kernel_rfl
theorem p41_2 (v5 : Int) (x0 : List (Int × Int × Int × Unit)) (x1 : List (Int × Int × Int × Unit)) : runF tab ext41 false 27 [] 2000 [] oks41 kds41 tys41 Try.f41.results [true, true] (cutAt b41 4) (E41_4 v5 x0 x1) (L41_4 v5 x0 x1) = some ([Dyn.mk Ty.bool Bool.false], [], [Decidable.decide (v5 < (↑(List.length x0) : Int)) = Bool.true, 0 ≤ v5, v5 < (↑(List.length x0) : Int), 0 ≤ v5, v5 < (↑(List.length x1) : Int), True, (!g65_0 (List.getD x0 (Int.toNat v5) (0, 0, 0, ())) (List.getD x1 (Int.toNat v5) (0, 0, 0, ()))) = Bool.true]) := by kernel_rfl
theorem p41_3 (v5 : Int) (x0 : List (Int × Int × Int × Unit)) (x1 : List (Int × Int × Int × Unit)) : Am.runN tab ext41 false 27 [] 2000 [] [] [0, 1, 5] [] [true, false] (cutAt b41 4) (E41_4 v5 x0 x1) (L41_4 v5 x0 x1) = some (cutAt b41 4, E41_4 (v5 + 1) (x0) (x1), L41_4 (v5 + 1) (x0) (x1), [Decidable.decide (v5 < (↑(List.length x0) : Int)) = Bool.true, 0 ≤ v5, v5 < (↑(List.length x0) : Int), 0 ≤ v5, v5 < (↑(List.length x1) : Int), True, (!g65_0 (List.getD x0 (Int.toNat v5) (0, 0, 0, ())) (List.getD x1 (Int.toNat v5) (0, 0, 0, ()))) = Bool.false, InR IntKind.i64 (v5 + 1)]) := by kernel_rfl
theorem p41_4 (v5 : Int) (x0 : List (Int × Int × Int × Unit)) (x1 : List (Int × Int × Int × Unit)) : runF tab ext41 false 27 [] 2000 [] oks41 kds41 tys41 Try.f41.results [false] (cutAt b41 4) (E41_4 v5 x0 x1) (L41_4 v5 x0 x1) = some ([Dyn.mk Ty.bool Bool.true], [], [Decidable.decide (v5 < (↑(List.length x0) : Int)) = Bool.false]) := by kernel_rfl
theorem snd41 : ∀ n, (∀ (x0 : List (Int × Int × Int × Unit)) (x1 : List (Int × Int × Int × Unit)) ds, R41 n x0 x1 ds → ∀ K q, AtV Try.prog 41 (PostR kds41 oks41 ds [] [] q K) 27 K q [] [.code b41] (entE 0 0 sig41 (x0, x1, ())) (entL sig41 (x0, x1, ()))) ∧ (∀ (v5 : Int) (x0 : List (Int × Int × Int × Unit)) (x1 : List (Int × Int × Int × Unit)) ds, R41_4 n v5 x0 x1 ds → ∀ K q, AtV Try.prog 41 (PostR kds41 oks41 ds [] [] q K) 27 K q [] (cutAt b41 4) (E41_4 v5 x0 x1) (L41_4 v5 x0 x1)) := by
  intro n
  induction n with
  | zero => exact ⟨fun _ _ _ h => by simp only [R41] at h, fun _ _ _ _ h => by simp only [R41_4] at h⟩
  | succ n ih =>
  obtain ⟨ih, ih4⟩ := ih
  refine ⟨?_, ?_⟩
  · intro x0 x1 ds h K q
    rw [R41] at h
    by_cases b0 : ((↑(List.length x0) : Int) != (↑(List.length x1) : Int)) = true
    · rw [if_pos b0] at h
      subst h
      exact AtV.fin Try.func41 tabOk ext41Ok mixed (p41_0 x0 x1) ⟨b0, trivial⟩
    · rw [if_neg b0] at h
      replace b0 := Bool.eq_false_iff.2 b0
      exact AtV.runN tabOk ext41Ok mixed (p41_1 x0 x1) ⟨b0, trivial⟩ (ih4 _ _ _ _ h K q)

  · intro v5 x0 x1 ds h K q
    rw [R41_4] at h
    by_cases b0 : (Decidable.decide (v5 < (↑(List.length x0) : Int))) = true
    · rw [if_pos b0] at h
      obtain ⟨s0, s1, h⟩ := h
      obtain ⟨s2, s3, h⟩ := h
      by_cases b1 : (!g65_0 (List.getD x0 (Int.toNat v5) (0, 0, 0, ())) (List.getD x1 (Int.toNat v5) (0, 0, 0, ()))) = true
      · rw [if_pos b1] at h
        subst h
        exact AtV.fin Try.func41 tabOk ext41Ok mixed (p41_2 v5 x0 x1) ⟨b0, s0, s1, s2, s3, trivial, b1, trivial⟩
      · rw [if_neg b1] at h
        replace b1 := Bool.eq_false_iff.2 b1
        obtain ⟨s4, h⟩ := h
        exact AtV.runN tabOk ext41Ok mixed (p41_3 v5 x0 x1) ⟨b0, s0, s1, s2, s3, trivial, b1, s4, trivial⟩ (ih4 _ _ _ _ h K q)
    · rw [if_neg b0] at h
      replace b0 := Bool.eq_false_iff.2 b0
      subst h
      exact AtV.fin Try.func41 tabOk ext41Ok mixed (p41_4 v5 x0 x1) ⟨b0, trivial⟩



theorem eq41 (x0 x1 : List (Int × Int × Int × Unit)) (hl : x0.length = x1.length) (hm : x0.length ≤ maxLen) : ∀ k i : Nat, i + k = x0.length → R41_4 (k + 1) (i : Int) x0 x1 [⟨.bool, decide (x0.drop i = x1.drop i)⟩] := by
  intro k
  induction k with
  | zero =>
    intro i hi
    have h1 : ¬ (i : Int) < (x0.length : Int) := by omega
    rw [R41_4, if_neg (by simpa using h1), drop_end x0 i (by omega), drop_end x1 i (by omega)]
    simp
  | succ k ih =>
    intro i hi
    have h1 : (i : Int) < (x0.length : Int) := by omega
    rw [R41_4, if_pos (by simpa using h1)]
    refine ⟨by omega, h1, by omega, by omega, ?_⟩
    simp only [Int.toNat_natCast]
    rw [drop_get x0 i ((0 : Int), (0 : Int), (0 : Int), ()) (by omega), drop_get x1 i ((0 : Int), (0 : Int), (0 : Int), ()) (by omega)]
    by_cases he : x0.getD i ((0 : Int), (0 : Int), (0 : Int), ()) = x1.getD i ((0 : Int), (0 : Int), (0 : Int), ())
    · have hd := (eqd65 _ _).2 he
      rw [if_neg (by rw [hd]; simp)]
      refine ⟨inR_up hm (by omega), ?_⟩
      have := ih (i + 1) (by omega)
      simp only [he, List.cons.injEq, true_and]
      exact this
    · have hd : g65_0 (x0.getD i ((0 : Int), (0 : Int), (0 : Int), ())) (x1.getD i ((0 : Int), (0 : Int), (0 : Int), ())) = false :=
        Bool.eq_false_iff.2 fun h => he ((eqd65 _ _).1 h)
      rw [if_pos (by rw [hd]; rfl)]
      simp only [he, List.cons.injEq, false_and, decide_false]

def g41_0 (x0 x1 : List (Int × Int × Int × Unit)) : Bool := decide (x0 = x1)
def P41 (x0 x1 : List (Int × Int × Int × Unit)) : Prop := True
def S41 : Am.Spec := { sig := sig41, pre := fun ⟨x0, x1, _⟩ => P41 x0 x1, res := fun ⟨x0, x1, _⟩ => [⟨Ty.bool, g41_0 x0 x1⟩] }
theorem con41 : Contract Try.prog 41 S41 := contract_of Try.func41 hb41 (Nat.le_of_ble_eq_true (by kernel_rfl)) (fun ⟨x0, x1, _⟩ h hwf K q => by
  refine (snd41 (x0.length + 2)).1 x0 x1 _ ?_ K q
  show R41 (x0.length + 1 + 1) x0 x1 [⟨Ty.bool, decide (x0 = x1)⟩]
  rw [R41]
  by_cases hl : x0.length = x1.length
  · rw [if_neg (by simp [hl])]
    have := eq41 x0 x1 hl hwf.1.1 x0.length 0 (by omega)
    simpa using this
  · rw [if_pos (by simp; omega)]
    have : x0 ≠ x1 := fun h => hl (by rw [h])
    simp [this])

end Go.Proofs.Ytpcfcplggpchjaa

/- Function 42 (laws.eqMotor): its runs between cut points. Written by a program of this repo (gen). -/
set_option linter.unusedVariables false
set_option linter.unusedSimpArgs false
set_option maxRecDepth 100000
namespace Go.Proofs.Ytpcfcplggpchjaa
open Go Go.Am Go.Proofs
def ext42 : Ext := []
theorem ext42Ok : ExtOk Try.prog ext42 := trivial

noncomputable def b42 : Code := bodyOf Try.f42
theorem hb42 : Try.f42.body = some b42 := by kernel_rfl
def sig42 : List AT := [AT.v (Ty.cons (Ty.int IntKind.i64) (Ty.cons (Ty.int IntKind.i64) (Ty.cons (Ty.int IntKind.i64) Ty.unit))), AT.v (Ty.cons (Ty.int IntKind.i64) (Ty.cons (Ty.int IntKind.i64) (Ty.cons (Ty.int IntKind.i64) Ty.unit)))]
def tys42 : List Ty := [Ty.bool]
def kds42 : List RK := []
def oks42 : List AT := owns sig42
def P42 (x0 : Int × Int × Int × Unit) (x1 : Int × Int × Int × Unit) : Prop := True
def g42_0 (x0 : Int × Int × Int × Unit) (x1 : Int × Int × Int × Unit) : Bool := (if (Prod.fst x0 != Prod.fst x1) = true then Bool.false else (if (Prod.fst (Prod.snd x0) != Prod.fst (Prod.snd x1)) = true then Bool.false else (if (Prod.fst (Prod.snd (Prod.snd x0)) != Prod.fst (Prod.snd (Prod.snd x1))) = true then Bool.false else Bool.true)))
theorem p42_0 (x0 : Int × Int × Int × Unit) (x1 : Int × Int × Int × Unit) : runF tab ext42 false 20 [] 2000 [] oks42 kds42 tys42 Try.f42.results [true] [.code b42] (entE 0 0 sig42 (x0, x1, ())) (entL sig42 (x0, x1, ())) = some ([Dyn.mk Ty.bool Bool.false], [], [(Prod.fst x0 != Prod.fst x1) = Bool.true]) := by kernel_rfl
theorem p42_1 (x0 : Int × Int × Int × Unit) (x1 : Int × Int × Int × Unit) : runF tab ext42 false 20 [] 2000 [] oks42 kds42 tys42 Try.f42.results [false, true] [.code b42] (entE 0 0 sig42 (x0, x1, ())) (entL sig42 (x0, x1, ())) = some ([Dyn.mk Ty.bool Bool.false], [], [(Prod.fst x0 != Prod.fst x1) = Bool.false, (Prod.fst (Prod.snd x0) != Prod.fst (Prod.snd x1)) = Bool.true]) := by kernel_rfl
theorem p42_2 (x0 : Int × Int × Int × Unit) (x1 : Int × Int × Int × Unit) : runF tab ext42 false 20 [] 2000 [] oks42 kds42 tys42 Try.f42.results [false, false, true] [.code b42] (entE 0 0 sig42 (x0, x1, ())) (entL sig42 (x0, x1, ())) = some ([Dyn.mk Ty.bool Bool.false], [], [(Prod.fst x0 != Prod.fst x1) = Bool.false, (Prod.fst (Prod.snd x0) != Prod.fst (Prod.snd x1)) = Bool.false, (Prod.fst (Prod.snd (Prod.snd x0)) != Prod.fst (Prod.snd (Prod.snd x1))) = Bool.true]) := by kernel_rfl
theorem p42_3 (x0 : Int × Int × Int × Unit) (x1 : Int × Int × Int × Unit) : runF tab ext42 false 20 [] 2000 [] oks42 kds42 tys42 Try.f42.results [false, false, false] [.code b42] (entE 0 0 sig42 (x0, x1, ())) (entL sig42 (x0, x1, ())) = some ([Dyn.mk Ty.bool Bool.true], [], [(Prod.fst x0 != Prod.fst x1) = Bool.false, (Prod.fst (Prod.snd x0) != Prod.fst (Prod.snd x1)) = Bool.false, (Prod.fst (Prod.snd (Prod.snd x0)) != Prod.fst (Prod.snd (Prod.snd x1))) = Bool.false]) := by kernel_rfl
theorem at42 (x0 : Int × Int × Int × Unit) (x1 : Int × Int × Int × Unit) (h : P42 x0 x1) (K : Ctx) (q : Nat → Value) : AtV Try.prog 42 (PostR kds42 oks42 [⟨Ty.bool, g42_0 x0 x1⟩] [] [] q K) 20 K q [] [.code b42] (entE 0 0 sig42 (x0, x1, ())) (entL sig42 (x0, x1, ())) := by
  unfold P42 at h
  unfold g42_0
  by_cases b0 : (Prod.fst x0 != Prod.fst x1) = true
  · try simp only [if_pos b0] at h ⊢
    exact AtV.fin Try.func42 tabOk ext42Ok mixed (p42_0 x0 x1) ⟨b0, trivial⟩
  · try simp only [if_neg b0] at h ⊢
    replace b0 := Bool.eq_false_iff.2 b0
    by_cases b1 : (Prod.fst (Prod.snd x0) != Prod.fst (Prod.snd x1)) = true
    · try simp only [if_pos b1] at h ⊢
      exact AtV.fin Try.func42 tabOk ext42Ok mixed (p42_1 x0 x1) ⟨b0, b1, trivial⟩
    · try simp only [if_neg b1] at h ⊢
      replace b1 := Bool.eq_false_iff.2 b1
      by_cases b2 : (Prod.fst (Prod.snd (Prod.snd x0)) != Prod.fst (Prod.snd (Prod.snd x1))) = true
      · try simp only [if_pos b2] at h ⊢
        exact AtV.fin Try.func42 tabOk ext42Ok mixed (p42_2 x0 x1) ⟨b0, b1, b2, trivial⟩
      · try simp only [if_neg b2] at h ⊢
        replace b2 := Bool.eq_false_iff.2 b2
        exact AtV.fin Try.func42 tabOk ext42Ok mixed (p42_3 x0 x1) ⟨b0, b1, b2, trivial⟩

def S42 : Am.Spec := { sig := sig42, pre := fun ⟨x0, x1, _⟩ => P42 x0 x1, res := fun ⟨x0, x1, _⟩ => [⟨Ty.bool, g42_0 x0 x1⟩], kds := kds42 }
theorem con42 : Contract Try.prog 42 S42 := contract_of Try.func42 hb42 (Nat.le_of_ble_eq_true (by kernel_rfl)) (fun ⟨x0, x1, _⟩ h _ K q => at42 x0 x1 h K q)


end Go.Proofs.Ytpcfcplggpchjaa

/- Function 43 (laws.eqDoor): its runs between cut points. Written by a program of this repo (gen). -/
set_option linter.unusedVariables false
set_option linter.unusedSimpArgs false
set_option maxRecDepth 100000
namespace Go.Proofs.Ytpcfcplggpchjaa
open Go Go.Am Go.Proofs
def ext43 : Ext := []
theorem ext43Ok : ExtOk Try.prog ext43 := trivial

noncomputable def b43 : Code := bodyOf Try.f43
theorem hb43 : Try.f43.body = some b43 := by kernel_rfl
def sig43 : List AT := [AT.v (Ty.cons (Ty.int IntKind.i64) (Ty.cons (Ty.int IntKind.i64) (Ty.cons (Ty.int IntKind.i64) Ty.unit))), AT.v (Ty.cons (Ty.int IntKind.i64) (Ty.cons (Ty.int IntKind.i64) (Ty.cons (Ty.int IntKind.i64) Ty.unit)))]
def tys43 : List Ty := [Ty.bool]
def kds43 : List RK := []
def oks43 : List AT := owns sig43
def P43 (x0 : Int × Int × Int × Unit) (x1 : Int × Int × Int × Unit) : Prop := True
def g43_0 (x0 : Int × Int × Int × Unit) (x1 : Int × Int × Int × Unit) : Bool := (if (Prod.fst x0 != Prod.fst x1) = true then Bool.false else (if (Prod.fst (Prod.snd x0) != Prod.fst (Prod.snd x1)) = true then Bool.false else (if (Prod.fst (Prod.snd (Prod.snd x0)) != Prod.fst (Prod.snd (Prod.snd x1))) = true then Bool.false else Bool.true)))
theorem p43_0 (x0 : Int × Int × Int × Unit) (x1 : Int × Int × Int × Unit) : runF tab ext43 false 20 [] 2000 [] oks43 kds43 tys43 Try.f43.results [true] [.code b43] (entE 0 0 sig43 (x0, x1, ())) (entL sig43 (x0, x1, ())) = some ([Dyn.mk Ty.bool Bool.false], [], [(Prod.fst x0 != Prod.fst x1) = Bool.true]) := by kernel_rfl
theorem p43_1 (x0 : Int × Int × Int × Unit) (x1 : Int × Int × Int × Unit) : runF tab ext43 false 20 [] 2000 [] oks43 kds43 tys43 Try.f43.results [false, true] [.code b43] (entE 0 0 sig43 (x0, x1, ())) (entL sig43 (x0, x1, ())) = some ([Dyn.mk Ty.bool Bool.false], [], [(Prod.fst x0 != Prod.fst x1) = Bool.false, (Prod.fst (Prod.snd x0) != Prod.fst (Prod.snd x1)) = Bool.true]) := by kernel_rfl
theorem p43_2 (x0 : Int × Int × Int × Unit) (x1 : Int × Int × Int × Unit) : runF tab ext43 false 20 [] 2000 [] oks43 kds43 tys43 Try.f43.results [false, false, true] [.code b43] (entE 0 0 sig43 (x0, x1, ())) (entL sig43 (x0, x1, ())) = some ([Dyn.mk Ty.bool Bool.false], [], [(Prod.fst x0 != Prod.fst x1) = Bool.false, (Prod.fst (Prod.snd x0) != Prod.fst (Prod.snd x1)) = Bool.false, (Prod.fst (Prod.snd (Prod.snd x0)) != Prod.fst (Prod.snd (Prod.snd x1))) = Bool.true]) := by kernel_rfl
theorem p43_3 (x0 : Int × Int × Int × Unit) (x1 : Int × Int × Int × Unit) : runF tab ext43 false 20 [] 2000 [] oks43 kds43 tys43 Try.f43.results [false, false, false] [.code b43] (entE 0 0 sig43 (x0, x1, ())) (entL sig43 (x0, x1, ())) = some ([Dyn.mk Ty.bool Bool.true], [], [(Prod.fst x0 != Prod.fst x1) = Bool.false, (Prod.fst (Prod.snd x0) != Prod.fst (Prod.snd x1)) = Bool.false, (Prod.fst (Prod.snd (Prod.snd x0)) != Prod.fst (Prod.snd (Prod.snd x1))) = Bool.false]) := by kernel_rfl
theorem at43 (x0 : Int × Int × Int × Unit) (x1 : Int × Int × Int × Unit) (h : P43 x0 x1) (K : Ctx) (q : Nat → Value) : AtV Try.prog 43 (PostR kds43 oks43 [⟨Ty.bool, g43_0 x0 x1⟩] [] [] q K) 20 K q [] [.code b43] (entE 0 0 sig43 (x0, x1, ())) (entL sig43 (x0, x1, ())) := by
  unfold P43 at h
  unfold g43_0
  by_cases b0 : (Prod.fst x0 != Prod.fst x1) = true
  · try simp only [if_pos b0] at h ⊢
    exact AtV.fin Try.func43 tabOk ext43Ok mixed (p43_0 x0 x1) ⟨b0, trivial⟩
  · try simp only [if_neg b0] at h ⊢
    replace b0 := Bool.eq_false_iff.2 b0
    by_cases b1 : (Prod.fst (Prod.snd x0) != Prod.fst (Prod.snd x1)) = true
    · try simp only [if_pos b1] at h ⊢
      exact AtV.fin Try.func43 tabOk ext43Ok mixed (p43_1 x0 x1) ⟨b0, b1, trivial⟩
    · try simp only [if_neg b1] at h ⊢
      replace b1 := Bool.eq_false_iff.2 b1
      by_cases b2 : (Prod.fst (Prod.snd (Prod.snd x0)) != Prod.fst (Prod.snd (Prod.snd x1))) = true
      · try simp only [if_pos b2] at h ⊢
        exact AtV.fin Try.func43 tabOk ext43Ok mixed (p43_2 x0 x1) ⟨b0, b1, b2, trivial⟩
      · try simp only [if_neg b2] at h ⊢
        replace b2 := Bool.eq_false_iff.2 b2
        exact AtV.fin Try.func43 tabOk ext43Ok mixed (p43_3 x0 x1) ⟨b0, b1, b2, trivial⟩

def S43 : Am.Spec := { sig := sig43, pre := fun ⟨x0, x1, _⟩ => P43 x0 x1, res := fun ⟨x0, x1, _⟩ => [⟨Ty.bool, g43_0 x0 x1⟩], kds := kds43 }
theorem con43 : Contract Try.prog 43 S43 := contract_of Try.func43 hb43 (Nat.le_of_ble_eq_true (by kernel_rfl)) (fun ⟨x0, x1, _⟩ h _ K q => at43 x0 x1 h K q)


end Go.Proofs.Ytpcfcplggpchjaa

/- Function 66 (laws.eqWorker): its runs between cut points. Written by a program of this repo (gen). -/
set_option linter.unusedVariables false
set_option linter.unusedSimpArgs false
set_option maxRecDepth 100000
namespace Go.Proofs.Ytpcfcplggpchjaa
open Go Go.Am Go.Proofs
def ext66 : Ext := []
theorem ext66Ok : ExtOk Try.prog ext66 := trivial

noncomputable def b66 : Code := bodyOf Try.f66
theorem hb66 : Try.f66.body = some b66 := by kernel_rfl
def sig66 : List AT := [AT.v (Ty.cons Ty.str (Ty.cons (Ty.int IntKind.i64) (Ty.cons (Ty.int IntKind.i64) Ty.unit))), AT.v (Ty.cons Ty.str (Ty.cons (Ty.int IntKind.i64) (Ty.cons (Ty.int IntKind.i64) Ty.unit)))]
def tys66 : List Ty := [Ty.bool]
def kds66 : List RK := []
def oks66 : List AT := owns sig66
def P66 (x0 : ByteArray × Int × Int × Unit) (x1 : ByteArray × Int × Int × Unit) : Prop := True
def g66_0 (x0 : ByteArray × Int × Int × Unit) (x1 : ByteArray × Int × Int × Unit) : Bool := (if (!ByteArray.toList (Prod.fst x0) == ByteArray.toList (Prod.fst x1)) = true then Bool.false else (if (Prod.fst (Prod.snd x0) != Prod.fst (Prod.snd x1)) = true then Bool.false else (if (Prod.fst (Prod.snd (Prod.snd x0)) != Prod.fst (Prod.snd (Prod.snd x1))) = true then Bool.false else Bool.true)))
theorem p66_0 (x0 : ByteArray × Int × Int × Unit) (x1 : ByteArray × Int × Int × Unit) : runF tab ext66 false 20 [] 2000 [] oks66 kds66 tys66 Try.f66.results [true] [.code b66] (entE 0 0 sig66 (x0, x1, ())) (entL sig66 (x0, x1, ())) = some ([Dyn.mk Ty.bool Bool.false], [], [(!ByteArray.toList (Prod.fst x0) == ByteArray.toList (Prod.fst x1)) = Bool.true]) := by kernel_rfl
theorem p66_1 (x0 : ByteArray × Int × Int × Unit) (x1 : ByteArray × Int × Int × Unit) : runF tab ext66 false 20 [] 2000 [] oks66 kds66 tys66 Try.f66.results [false, true] [.code b66] (entE 0 0 sig66 (x0, x1, ())) (entL sig66 (x0, x1, ())) = some ([Dyn.mk Ty.bool Bool.false], [], [(!ByteArray.toList (Prod.fst x0) == ByteArray.toList (Prod.fst x1)) = Bool.false, (Prod.fst (Prod.snd x0) != Prod.fst (Prod.snd x1)) = Bool.true]) := by kernel_rfl
theorem p66_2 (x0 : ByteArray × Int × Int × Unit) (x1 : ByteArray × Int × Int × Unit) : runF tab ext66 false 20 [] 2000 [] oks66 kds66 tys66 Try.f66.results [false, false, true] [.code b66] (entE 0 0 sig66 (x0, x1, ())) (entL sig66 (x0, x1, ())) = some ([Dyn.mk Ty.bool Bool.false], [], [(!ByteArray.toList (Prod.fst x0) == ByteArray.toList (Prod.fst x1)) = Bool.false, (Prod.fst (Prod.snd x0) != Prod.fst (Prod.snd x1)) = Bool.false, (Prod.fst (Prod.snd (Prod.snd x0)) != Prod.fst (Prod.snd (Prod.snd x1))) = Bool.true]) := by kernel_rfl
theorem p66_3 (x0 : ByteArray × Int × Int × Unit) (x1 : ByteArray × Int × Int × Unit) : runF tab ext66 false 20 [] 2000 [] oks66 kds66 tys66 Try.f66.results [false, false, false] [.code b66] (entE 0 0 sig66 (x0, x1, ())) (entL sig66 (x0, x1, ())) = some ([Dyn.mk Ty.bool Bool.true], [], [(!ByteArray.toList (Prod.fst x0) == ByteArray.toList (Prod.fst x1)) = Bool.false, (Prod.fst (Prod.snd x0) != Prod.fst (Prod.snd x1)) = Bool.false, (Prod.fst (Prod.snd (Prod.snd x0)) != Prod.fst (Prod.snd (Prod.snd x1))) = Bool.false]) := by kernel_rfl
theorem at66 (x0 : ByteArray × Int × Int × Unit) (x1 : ByteArray × Int × Int × Unit) (h : P66 x0 x1) (K : Ctx) (q : Nat → Value) : AtV Try.prog 66 (PostR kds66 oks66 [⟨Ty.bool, g66_0 x0 x1⟩] [] [] q K) 20 K q [] [.code b66] (entE 0 0 sig66 (x0, x1, ())) (entL sig66 (x0, x1, ())) := by
  unfold P66 at h
  unfold g66_0
  by_cases b0 : (!ByteArray.toList (Prod.fst x0) == ByteArray.toList (Prod.fst x1)) = true
  · try simp only [if_pos b0] at h ⊢
    exact AtV.fin Try.func66 tabOk ext66Ok mixed (p66_0 x0 x1) ⟨b0, trivial⟩
  · try simp only [if_neg b0] at h ⊢
    replace b0 := Bool.eq_false_iff.2 b0
    by_cases b1 : (Prod.fst (Prod.snd x0) != Prod.fst (Prod.snd x1)) = true
    · try simp only [if_pos b1] at h ⊢
      exact AtV.fin Try.func66 tabOk ext66Ok mixed (p66_1 x0 x1) ⟨b0, b1, trivial⟩
    · try simp only [if_neg b1] at h ⊢
      replace b1 := Bool.eq_false_iff.2 b1
      by_cases b2 : (Prod.fst (Prod.snd (Prod.snd x0)) != Prod.fst (Prod.snd (Prod.snd x1))) = true
      · try simp only [if_pos b2] at h ⊢
        exact AtV.fin Try.func66 tabOk ext66Ok mixed (p66_2 x0 x1) ⟨b0, b1, b2, trivial⟩
      · try simp only [if_neg b2] at h ⊢
        replace b2 := Bool.eq_false_iff.2 b2
        exact AtV.fin Try.func66 tabOk ext66Ok mixed (p66_3 x0 x1) ⟨b0, b1, b2, trivial⟩

def S66 : Am.Spec := { sig := sig66, pre := fun ⟨x0, x1, _⟩ => P66 x0 x1, res := fun ⟨x0, x1, _⟩ => [⟨Ty.bool, g66_0 x0 x1⟩], kds := kds66 }
theorem con66 : Contract Try.prog 66 S66 := contract_of Try.func66 hb66 (Nat.le_of_ble_eq_true (by kernel_rfl)) (fun ⟨x0, x1, _⟩ h _ K q => at66 x0 x1 h K q)


theorem eqd66 (x y : (ByteArray × Int × Int × Unit)) : g66_0 x y = true ↔ x = y := by
  obtain ⟨a, b, c, u⟩ := x
  obtain ⟨a', b', c', u'⟩ := y
  unfold g66_0
  simp only [Bool.not_eq_true', bytes_ne, bne_iff_ne, ne_eq, ite_not]
  by_cases h0 : a = a'
  · by_cases h1 : b = b'
    · by_cases h2 : c = c'
      · simp [h0, h1, h2]
      · simp [h0, h1, h2]
    · simp [h0, h1]
  · simp [h0]

end Go.Proofs.Ytpcfcplggpchjaa

/- Function 44 (laws.eqWorkerS): its runs between cut points. Written by a program of this repo (gen). -/
set_option linter.unusedVariables false
set_option linter.unusedSimpArgs false
set_option maxRecDepth 100000
namespace Go.Proofs.Ytpcfcplggpchjaa
open Go Go.Am Go.Proofs
def ext44 : Ext := [(66, S66)]
theorem call44_66 : Callable Try.prog 66 := ⟨Try.f66, Try.func66, by kernel_rfl, by kernel_rfl⟩
theorem ext44Ok : ExtOk Try.prog ext44 := ⟨⟨call44_66, con66⟩, trivial⟩

noncomputable def b44 : Code := bodyOf Try.f44
theorem hb44 : Try.f44.body = some b44 := by kernel_rfl
def sig44 : List AT := [AT.v (Ty.sl (Ty.cons Ty.str (Ty.cons (Ty.int IntKind.i64) (Ty.cons (Ty.int IntKind.i64) Ty.unit)))), AT.v (Ty.sl (Ty.cons Ty.str (Ty.cons (Ty.int IntKind.i64) (Ty.cons (Ty.int IntKind.i64) Ty.unit))))]
def tys44 : List Ty := [Ty.bool]
def kds44 : List RK := []
def oks44 : List AT := owns sig44
def E44_4 (v5 : Int) (x0 : List (ByteArray × Int × Int × Unit)) (x1 : List (ByteArray × Int × Int × Unit)) : Env := [(0, PV.a (Atom.sl (Ty.cons Ty.str (Ty.cons (Ty.int IntKind.i64) (Ty.cons (Ty.int IntKind.i64) Ty.unit))) x0)), (1, PV.a (Atom.sl (Ty.cons Ty.str (Ty.cons (Ty.int IntKind.i64) (Ty.cons (Ty.int IntKind.i64) Ty.unit))) x1)), (5, PV.a (Atom.val (Value.int IntKind.i64 v5)))]
def L44_4 (v5 : Int) (x0 : List (ByteArray × Int × Int × Unit)) (x1 : List (ByteArray × Int × Int × Unit)) : Heap := []
mutual
def R44 : Nat → List (ByteArray × Int × Int × Unit) → List (ByteArray × Int × Int × Unit) → List Dyn → Prop
  | 0, _, _, _ => False
  | n + 1, x0, x1, ds => (if ((↑(List.length x0) : Int) != (↑(List.length x1) : Int)) = true then (ds = [Dyn.mk Ty.bool Bool.false]) else (R44_4 n (0) (x0) (x1) ds))
def R44_4 : Nat → Int → List (ByteArray × Int × Int × Unit) → List (ByteArray × Int × Int × Unit) → List Dyn → Prop
  | 0, _, _, _, _ => False
  | n + 1, v5, x0, x1, ds => (if (Decidable.decide (v5 < (↑(List.length x0) : Int))) = true then ((0 ≤ v5) ∧ (v5 < (↑(List.length x0) : Int)) ∧ ((0 ≤ v5) ∧ (v5 < (↑(List.length x1) : Int)) ∧ (if (!g66_0 (List.getD x0 (Int.toNat v5) (ByteArray.empty, 0, 0, ())) (List.getD x1 (Int.toNat v5) (ByteArray.empty, 0, 0, ()))) = true then (ds = [Dyn.mk Ty.bool Bool.false]) else ((InR IntKind.i64 (v5 + 1)) ∧ (R44_4 n (v5 + 1) (x0) (x1) ds))))) else (ds = [Dyn.mk Ty.bool Bool.true]))
end
theorem p44_0 (x0 : List (ByteArray × Int × Int × Unit)) (x1 : List (ByteArray × Int × Int × Unit)) : runF tab ext44 false 27 [] 2000 [] oks44 kds44 tys44 Try.f44.results [true] [.code b44] (entE 0 0 sig44 (x0, x1, ())) (entL sig44 (x0, x1, ())) = some ([Dyn.mk Ty.bool Bool.false], [], [((↑(List.length x0) : Int) != (↑(List.length x1) : Int)) = Bool.true]) := by kernel_rfl
theorem p44_1 (x0 : List (ByteArray × Int × Int × Unit)) (x1 : List (ByteArray × Int × Int × Unit)) : Am.runN tab ext44 false 27 [] 2000 [] [] [0, 1, 5] [] [false] [.code b44] (entE 0 0 sig44 (x0, x1, ())) (entL sig44 (x0, x1, ())) = some (cutAt b44 4, E44_4 (0) (x0) (x1), L44_4 (0) (x0) (x1), [((↑(List.length x0) : Int) != (↑(List.length x1) : Int)) = Bool.false]) := by kernel_rfl
theorem p44_2 (v5 : Int) (x0 : List (ByteArray × Int × Int × Unit)) (x1 : List (ByteArray × Int × Int × Unit)) : runF tab ext44 false 27 [] 2000 [] oks44 kds44 tys44 Try.f44.results [true, true] (cutAt b44 4) (E44_4 v5 x0 x1) (L44_4 v5 x0 x1) = some ([Dyn.mk Ty.bool Bool.false], [], [Decidable.decide (v5 < (↑(List.length x0) : Int)) = Bool.true, 0 ≤ v5, v5 < (↑(List.length x0) : Int), 0 ≤ v5, v5 < (↑(List.length x1) : Int), True, (!g66_0 (List.getD x0 (Int.toNat v5) (ByteArray.empty, 0, 0, ())) (List.getD x1 (Int.toNat v5) (ByteArray.empty, 0, 0, ()))) = Bool.true]) := by kernel_rfl
theorem p44_3 (v5 : Int) (x0 : List (ByteArray × Int × Int × Unit)) (x1 : List (ByteArray × Int × Int × Unit)) : Am.runN tab ext44 false 27 [] 2000 [] [] [0, 1, 5] [] [true, false] (cutAt b44 4) (E44_4 v5 x0 x1) (L44_4 v5 x0 x1) = some (cutAt b44 4, E44_4 (v5 + 1) (x0) (x1), L44_4 (v5 + 1) (x0) (x1), [Decidable.decide (v5 < (↑(List.length x0) : Int)) = Bool.true, 0 ≤ v5, v5 < (↑(List.length x0) : Int), 0 ≤ v5, v5 < (↑(List.length x1) : Int), True, (!g66_0 (List.getD x0 (Int.toNat v5) (ByteArray.empty, 0, 0, ())) (List.getD x1 (Int.toNat v5) (ByteArray.empty, 0, 0, ()))) = Bool.false, InR IntKind.i64 (v5 + 1)]) := by kernel_rfl
theorem p44_4 (v5 : Int) (x0 : List (ByteArray × Int × Int × Unit)) (x1 : List (ByteArray × Int × Int × Unit)) : runF tab ext44 false 27 [] 2000 [] oks44 kds44 tys44 Try.f44.results [false] (cutAt b44 4) (E44_4 v5 x0 x1) (L44_4 v5 x0 x1) = some ([Dyn.mk Ty.bool Bool.true], [], [Decidable.decide (v5 < (↑(List.length x0) : Int)) = Bool.false]) := by kernel_rfl
theorem snd44 : ∀ n, (∀ (x0 : List (ByteArray × Int × Int × Unit)) (x1 : List (ByteArray × Int × Int × Unit)) ds, R44 n x0 x1 ds → ∀ K q, AtV Try.prog 44 (PostR kds44 oks44 ds [] [] q K) 27 K q [] [.code b44] (entE 0 0 sig44 (x0, x1, ())) (entL sig44 (x0, x1, ()))) ∧ (∀ (v5 : Int) (x0 : List (ByteArray × Int × Int × Unit)) (x1 : List (ByteArray × Int × Int × Unit)) ds, R44_4 n v5 x0 x1 ds → ∀ K q, AtV Try.prog 44 (PostR kds44 oks44 ds [] [] q K) 27 K q [] (cutAt b44 4) (E44_4 v5 x0 x1) (L44_4 v5 x0 x1)) := by
  intro n
  induction n with
  | zero => exact ⟨fun _ _ _ h => by simp only [R44] at h, fun _ _ _ _ h => by simp only [R44_4] at h⟩
  | succ n ih =>
  obtain ⟨ih, ih4⟩ := ih
  refine ⟨?_, ?_⟩
  · intro x0 x1 ds h K q
    rw [R44] at h
    by_cases b0 : ((↑(List.length x0) : Int) != (↑(List.length x1) : Int)) = true
    · rw [if_pos b0] at h
      subst h
      exact AtV.fin Try.func44 tabOk ext44Ok mixed (p44_0 x0 x1) ⟨b0, trivial⟩
    · rw [if_neg b0] at h
      replace b0 := Bool.eq_false_iff.2 b0
      exact AtV.runN tabOk ext44Ok mixed (p44_1 x0 x1) ⟨b0, trivial⟩ (ih4 _ _ _ _ h K q)

  · intro v5 x0 x1 ds h K q
    rw [R44_4] at h
    by_cases b0 : (Decidable.decide (v5 < (↑(List.length x0) : Int))) = true
    · rw [if_pos b0] at h
      obtain ⟨s0, s1, h⟩ := h
      obtain ⟨s2, s3, h⟩ := h
      by_cases b1 : (!g66_0 (List.getD x0 (Int.toNat v5) (ByteArray.empty, 0, 0, ())) (List.getD x1 (Int.toNat v5) (ByteArray.empty, 0, 0, ()))) = true
      · rw [if_pos b1] at h
        subst h
        exact AtV.fin Try.func44 tabOk ext44Ok mixed (p44_2 v5 x0 x1) ⟨b0, s0, s1, s2, s3, trivial, b1, trivial⟩
      · rw [if_neg b1] at h
        replace b1 := Bool.eq_false_iff.2 b1
        obtain ⟨s4, h⟩ := h
        exact AtV.runN tabOk ext44Ok mixed (p44_3 v5 x0 x1) ⟨b0, s0, s1, s2, s3, trivial, b1, s4, trivial⟩ (ih4 _ _ _ _ h K q)
    · rw [if_neg b0] at h
      replace b0 := Bool.eq_false_iff.2 b0
      subst h
      exact AtV.fin Try.func44 tabOk ext44Ok mixed (p44_4 v5 x0 x1) ⟨b0, trivial⟩



theorem eq44 (x0 x1 : List (ByteArray × Int × Int × Unit)) (hl : x0.length = x1.length) (hm : x0.length ≤ maxLen) : ∀ k i : Nat, i + k = x0.length → R44_4 (k + 1) (i : Int) x0 x1 [⟨.bool, decide (x0.drop i = x1.drop i)⟩] := by
  intro k
  induction k with
  | zero =>
    intro i hi
    have h1 : ¬ (i : Int) < (x0.length : Int) := by omega
    rw [R44_4, if_neg (by simpa using h1), drop_end x0 i (by omega), drop_end x1 i (by omega)]
    simp
  | succ k ih =>
    intro i hi
    have h1 : (i : Int) < (x0.length : Int) := by omega
    rw [R44_4, if_pos (by simpa using h1)]
    refine ⟨by omega, h1, by omega, by omega, ?_⟩
    simp only [Int.toNat_natCast]
    rw [drop_get x0 i (ByteArray.empty, (0 : Int), (0 : Int), ()) (by omega), drop_get x1 i (ByteArray.empty, (0 : Int), (0 : Int), ()) (by omega)]
    by_cases he : x0.getD i (ByteArray.empty, (0 : Int), (0 : Int), ()) = x1.getD i (ByteArray.empty, (0 : Int), (0 : Int), ())
    · have hd := (eqd66 _ _).2 he
      rw [if_neg (by rw [hd]; simp)]
      refine ⟨inR_up hm (by omega), ?_⟩
      have := ih (i + 1) (by omega)
      simp only [he, List.cons.injEq, true_and]
      exact this
    · have hd : g66_0 (x0.getD i (ByteArray.empty, (0 : Int), (0 : Int), ())) (x1.getD i (ByteArray.empty, (0 : Int), (0 : Int), ())) = false :=
        Bool.eq_false_iff.2 fun h => he ((eqd66 _ _).1 h)
      rw [if_pos (by rw [hd]; rfl)]
      simp only [he, List.cons.injEq, false_and, decide_false]

def g44_0 (x0 x1 : List (ByteArray × Int × Int × Unit)) : Bool := decide (x0 = x1)
def P44 (x0 x1 : List (ByteArray × Int × Int × Unit)) : Prop := True
def S44 : Am.Spec := { sig := sig44, pre := fun ⟨x0, x1, _⟩ => P44 x0 x1, res := fun ⟨x0, x1, _⟩ => [⟨Ty.bool, g44_0 x0 x1⟩] }
theorem con44 : Contract Try.prog 44 S44 := contract_of Try.func44 hb44 (Nat.le_of_ble_eq_true (by kernel_rfl)) (fun ⟨x0, x1, _⟩ h hwf K q => by
  refine (snd44 (x0.length + 2)).1 x0 x1 _ ?_ K q
  show R44 (x0.length + 1 + 1) x0 x1 [⟨Ty.bool, decide (x0 = x1)⟩]
  rw [R44]
  by_cases hl : x0.length = x1.length
  · rw [if_neg (by simp [hl])]
    have := eq44 x0 x1 hl hwf.1.1 x0.length 0 (by omega)
    simpa using this
  · rw [if_pos (by simp; omega)]
    have : x0 ≠ x1 := fun h => hl (by rw [h])
    simp [this])

end Go.Proofs.Ytpcfcplggpchjaa

/- Function 45 (laws.eqBasin): its runs between cut points. Written by a program of this repo (gen). -/
set_option linter.unusedVariables false
set_option linter.unusedSimpArgs false
set_option maxRecDepth 100000
namespace Go.Proofs.Ytpcfcplggpchjaa
open Go Go.Am Go.Proofs
def ext45 : Ext := []
theorem ext45Ok : ExtOk Try.prog ext45 := trivial

noncomputable def b45 : Code := bodyOf Try.f45
theorem hb45 : Try.f45.body = some b45 := by kernel_rfl
def sig45 : List AT := [AT.v (Ty.cons (Ty.int IntKind.i64) (Ty.cons (Ty.int IntKind.i64) (Ty.cons (Ty.int IntKind.i64) (Ty.cons (Ty.int IntKind.i64) Ty.unit)))), AT.v (Ty.cons (Ty.int IntKind.i64) (Ty.cons (Ty.int IntKind.i64) (Ty.cons (Ty.int IntKind.i64) (Ty.cons (Ty.int IntKind.i64) Ty.unit))))]
def tys45 : List Ty := [Ty.bool]
def kds45 : List RK := []
def oks45 : List AT := owns sig45
def P45 (x0 : Int × Int × Int × Int × Unit) (x1 : Int × Int × Int × Int × Unit) : Prop := True
def g45_0 (x0 : Int × Int × Int × Int × Unit) (x1 : Int × Int × Int × Int × Unit) : Bool := (if (Prod.fst x0 != Prod.fst x1) = true then Bool.false else (if (Prod.fst (Prod.snd x0) != Prod.fst (Prod.snd x1)) = true then Bool.false else (if (Prod.fst (Prod.snd (Prod.snd x0)) != Prod.fst (Prod.snd (Prod.snd x1))) = true then Bool.false else (if (Prod.fst (Prod.snd (Prod.snd (Prod.snd x0))) != Prod.fst (Prod.snd (Prod.snd (Prod.snd x1)))) = true then Bool.false else Bool.true))))
theorem p45_0 (x0 : Int × Int × Int × Int × Unit) (x1 : Int × Int × Int × Int × Unit) : runF tab ext45 false 25 [] 2000 [] oks45 kds45 tys45 Try.f45.results [true] [.code b45] (entE 0 0 sig45 (x0, x1, ())) (entL sig45 (x0, x1, ())) = some ([Dyn.mk Ty.bool Bool.false], [], [(Prod.fst x0 != Prod.fst x1) = Bool.true]) := by kernel_rfl
theorem p45_1 (x0 : Int × Int × Int × Int × Unit) (x1 : Int × Int × Int × Int × Unit) : runF tab ext45 false 25 [] 2000 [] oks45 kds45 tys45 Try.f45.results [false, true] [.code b45] (entE 0 0 sig45 (x0, x1, ())) (entL sig45 (x0, x1, ())) = some ([Dyn.mk Ty.bool Bool.false], [], [(Prod.fst x0 != Prod.fst x1) = Bool.false, (Prod.fst (Prod.snd x0) != Prod.fst (Prod.snd x1)) = Bool.true]) := by kernel_rfl
theorem p45_2 (x0 : Int × Int × Int × Int × Unit) (x1 : Int × Int × Int × Int × Unit) : runF tab ext45 false 25 [] 2000 [] oks45 kds45 tys45 Try.f45.results [false, false, true] [.code b45] (entE 0 0 sig45 (x0, x1, ())) (entL sig45 (x0, x1, ())) = some ([Dyn.mk Ty.bool Bool.false], [], [(Prod.fst x0 != Prod.fst x1) = Bool.false, (Prod.fst (Prod.snd x0) != Prod.fst (Prod.snd x1)) = Bool.false, (Prod.fst (Prod.snd (Prod.snd x0)) != Prod.fst (Prod.snd (Prod.snd x1))) = Bool.true]) := by kernel_rfl
theorem p45_3 (x0 : Int × Int × Int × Int × Unit) (x1 : Int × Int × Int × Int × Unit) : runF tab ext45 false 25 [] 2000 [] oks45 kds45 tys45 Try.f45.results [false, false, false, true] [.code b45] (entE 0 0 sig45 (x0, x1, ())) (entL sig45 (x0, x1, ())) = some ([Dyn.mk Ty.bool Bool.false], [], [(Prod.fst x0 != Prod.fst x1) = Bool.false, (Prod.fst (Prod.snd x0) != Prod.fst (Prod.snd x1)) = Bool.false, (Prod.fst (Prod.snd (Prod.snd x0)) != Prod.fst (Prod.snd (Prod.snd x1))) = Bool.false, (Prod.fst (Prod.snd (Prod.snd (Prod.snd x0))) != Prod.fst (Prod.snd (Prod.snd (Prod.snd x1)))) = Bool.true]) := by kernel_rfl
theorem p45_4 (x0 : Int × Int × Int × Int × Unit) (x1 : Int × Int × Int × Int × Unit) : runF tab ext45 false 25 [] 2000 [] oks45 kds45 tys45 Try.f45.results [false, false, false, false] [.code b45] (entE 0 0 sig45 (x0, x1, ())) (entL sig45 (x0, x1, ())) = some ([Dyn.mk Ty.bool Bool.true], [], [(Prod.fst x0 != Prod.fst x1) = Bool.false, (Prod.fst (Prod.snd x0) != Prod.fst (Prod.snd x1)) = Bool.false, (Prod.fst (Prod.snd (Prod.snd x0)) != Prod.fst (Prod.snd (Prod.snd x1))) = Bool.false, (Prod.fst (Prod.snd (Prod.snd (Prod.snd x0))) != Prod.fst (Prod.snd (Prod.snd (Prod.snd x1)))) = Bool.false]) := by kernel_rfl
theorem at45 (x0 : Int × Int × Int × Int × Unit) (x1 : Int × Int × Int × Int × Unit) (h : P45 x0 x1) (K : Ctx) (q : Nat → Value) : AtV Try.prog 45 (PostR kds45 oks45 [⟨Ty.bool, g45_0 x0 x1⟩] [] [] q K) 25 K q [] [.code b45] (entE 0 0 sig45 (x0, x1, ())) (entL sig45 (x0, x1, ())) := by
  unfold P45 at h
  unfold g45_0
  by_cases b0 : (Prod.fst x0 != Prod.fst x1) = true
  · try simp only [if_pos b0] at h ⊢
    exact AtV.fin Try.func45 tabOk ext45Ok mixed (p45_0 x0 x1) ⟨b0, trivial⟩
  · try simp only [if_neg b0] at h ⊢
    replace b0 := Bool.eq_false_iff.2 b0
    by_cases b1 : (Prod.fst (Prod.snd x0) != Prod.fst (Prod.snd x1)) = true
    · try simp only [if_pos b1] at h ⊢
      exact AtV.fin Try.func45 tabOk ext45Ok mixed (p45_1 x0 x1) ⟨b0, b1, trivial⟩
    · try simp only [if_neg b1] at h ⊢
      replace b1 := Bool.eq_false_iff.2 b1
      by_cases b2 : (Prod.fst (Prod.snd (Prod.snd x0)) != Prod.fst (Prod.snd (Prod.snd x1))) = true
      · try simp only [if_pos b2] at h ⊢
        exact AtV.fin Try.func45 tabOk ext45Ok mixed (p45_2 x0 x1) ⟨b0, b1, b2, trivial⟩
      · try simp only [if_neg b2] at h ⊢
        replace b2 := Bool.eq_false_iff.2 b2
        by_cases b3 : (Prod.fst (Prod.snd (Prod.snd (Prod.snd x0))) != Prod.fst (Prod.snd (Prod.snd (Prod.snd x1)))) = true
        · try simp only [if_pos b3] at h ⊢
          exact AtV.fin Try.func45 tabOk ext45Ok mixed (p45_3 x0 x1) ⟨b0, b1, b2, b3, trivial⟩
        · try simp only [if_neg b3] at h ⊢
          replace b3 := Bool.eq_false_iff.2 b3
          exact AtV.fin Try.func45 tabOk ext45Ok mixed (p45_4 x0 x1) ⟨b0, b1, b2, b3, trivial⟩

def S45 : Am.Spec := { sig := sig45, pre := fun ⟨x0, x1, _⟩ => P45 x0 x1, res := fun ⟨x0, x1, _⟩ => [⟨Ty.bool, g45_0 x0 x1⟩], kds := kds45 }
theorem con45 : Contract Try.prog 45 S45 := contract_of Try.func45 hb45 (Nat.le_of_ble_eq_true (by kernel_rfl)) (fun ⟨x0, x1, _⟩ h _ K q => at45 x0 x1 h K q)


end Go.Proofs.Ytpcfcplggpchjaa

/- Function 67 (laws.eqFare): its runs between cut points. Written by a program of this repo (gen). -/
set_option linter.unusedVariables false
set_option linter.unusedSimpArgs false
set_option maxRecDepth 100000
namespace Go.Proofs.Ytpcfcplggpchjaa
open Go Go.Am Go.Proofs
def ext67 : Ext := []
theorem ext67Ok : ExtOk Try.prog ext67 := trivial

noncomputable def b67 : Code := bodyOf Try.f67
theorem hb67 : Try.f67.body = some b67 := by kernel_rfl
def sig67 : List AT := [AT.v (Ty.cons Ty.str (Ty.cons (Ty.int IntKind.i64) (Ty.cons (Ty.int IntKind.i64) (Ty.cons (Ty.int IntKind.i64) Ty.unit)))), AT.v (Ty.cons Ty.str (Ty.cons (Ty.int IntKind.i64) (Ty.cons (Ty.int IntKind.i64) (Ty.cons (Ty.int IntKind.i64) Ty.unit))))]
def tys67 : List Ty := [Ty.bool]
def kds67 : List RK := []
def oks67 : List AT := owns sig67
def P67 (x0 : ByteArray × Int × Int × Int × Unit) (x1 : ByteArray × Int × Int × Int × Unit) : Prop := True
def g67_0 (x0 : ByteArray × Int × Int × Int × Unit) (x1 : ByteArray × Int × Int × Int × Unit) : Bool := (if (!ByteArray.toList (Prod.fst x0) == ByteArray.toList (Prod.fst x1)) = true then Bool.false else (if (Prod.fst (Prod.snd x0) != Prod.fst (Prod.snd x1)) = true then Bool.false else (if (Prod.fst (Prod.snd (Prod.snd x0)) != Prod.fst (Prod.snd (Prod.snd x1))) = true then Bool.false else (if (Prod.fst (Prod.snd (Prod.snd (Prod.snd x0))) != Prod.fst (Prod.snd (Prod.snd (Prod.snd x1)))) = true then Bool.false else Bool.true))))
theorem p67_0 (x0 : ByteArray × Int × Int × Int × Unit) (x1 : ByteArray × Int × Int × Int × Unit) : runF tab ext67 false 25 [] 2000 [] oks67 kds67 tys67 Try.f67.results [true] [.code b67] (entE 0 0 sig67 (x0, x1, ())) (entL sig67 (x0, x1, ())) = some ([Dyn.mk Ty.bool Bool.false], [], [(!ByteArray.toList (Prod.fst x0) == ByteArray.toList (Prod.fst x1)) = Bool.true]) := by kernel_rfl
theorem p67_1 (x0 : ByteArray × Int × Int × Int × Unit) (x1 : ByteArray × Int × Int × Int × Unit) : runF tab ext67 false 25 [] 2000 [] oks67 kds67 tys67 Try.f67.results [false, true] [.code b67] (entE 0 0 sig67 (x0, x1, ())) (entL sig67 (x0, x1, ())) = some ([Dyn.mk Ty.bool Bool.false], [], [(!ByteArray.toList (Prod.fst x0) == ByteArray.toList (Prod.fst x1)) = Bool.false, (Prod.fst (Prod.snd x0) != Prod.fst (Prod.snd x1)) = Bool.true]) := by kernel_rfl
theorem p67_2 (x0 : ByteArray × Int × Int × Int × Unit) (x1 : ByteArray × Int × Int × Int × Unit) : runF tab ext67 false 25 [] 2000 [] oks67 kds67 tys67 Try.f67.results [false, false, true] [.code b67] (entE 0 0 sig67 (x0, x1, ())) (entL sig67 (x0, x1, ())) = some ([Dyn.mk Ty.bool Bool.false], [], [(!ByteArray.toList (Prod.fst x0) == ByteArray.toList (Prod.fst x1)) = Bool.false, (Prod.fst (Prod.snd x0) != Prod.fst (Prod.snd x1)) = Bool.false, (Prod.fst (Prod.snd (Prod.snd x0)) != Prod.fst (Prod.snd (Prod.snd x1))) = Bool.true]) := by kernel_rfl
theorem p67_3 (x0 : ByteArray × Int × Int × Int × Unit) (x1 : ByteArray × Int × Int × Int × Unit) : runF tab ext67 false 25 [] 2000 [] oks67 kds67 tys67 Try.f67.results [false, false, false, true] [.code b67] (entE 0 0 sig67 (x0, x1, ())) (entL sig67 (x0, x1, ())) = some ([Dyn.mk Ty.bool Bool.false], [], [(!ByteArray.toList (Prod.fst x0) == ByteArray.toList (Prod.fst x1)) = Bool.false, (Prod.fst (Prod.snd x0) != Prod.fst (Prod.snd x1)) = Bool.false, (Prod.fst (Prod.snd (Prod.snd x0)) != Prod.fst (Prod.snd (Prod.snd x1))) = Bool.false, (Prod.fst (Prod.snd (Prod.snd (Prod.snd x0))) != Prod.fst (Prod.snd (Prod.snd (Prod.snd x1)))) = Bool.true]) := by kernel_rfl
theorem p67_4 (x0 : ByteArray × Int × Int × Int × Unit) (x1 : ByteArray × Int × Int × Int × Unit) : runF tab ext67 false 25 [] 2000 [] oks67 kds67 tys67 Try.f67.results [false, false, false, false] [.code b67] (entE 0 0 sig67 (x0, x1, ())) (entL sig67 (x0, x1, ())) = some ([Dyn.mk Ty.bool Bool.true], [], [(!ByteArray.toList (Prod.fst x0) == ByteArray.toList (Prod.fst x1)) = Bool.false, (Prod.fst (Prod.snd x0) != Prod.fst (Prod.snd x1)) = Bool.false, (Prod.fst (Prod.snd (Prod.snd x0)) != Prod.fst (Prod.snd (Prod.snd x1))) = Bool.false, (Prod.fst (Prod.snd (Prod.snd (Prod.snd x0))) != Prod.fst (Prod.snd (Prod.snd (Prod.snd x1)))) = Bool.false]) := by kernel_rfl
theorem at67 (x0 : ByteArray × Int × Int × Int × Unit) (x1 : ByteArray × Int × Int × Int × Unit) (h : P67 x0 x1) (K : Ctx) (q : Nat → Value) : AtV Try.prog 67 (PostR kds67 oks67 [⟨Ty.bool, g67_0 x0 x1⟩] [] [] q K) 25 K q [] [.code b67] (entE 0 0 sig67 (x0, x1, ())) (entL sig67 (x0, x1, ())) := by
  unfold P67 at h
  unfold g67_0
  by_cases b0 : (!ByteArray.toList (Prod.fst x0) == ByteArray.toList (Prod.fst x1)) = true
  · try simp only [if_pos b0] at h ⊢
    exact AtV.fin Try.func67 tabOk ext67Ok mixed (p67_0 x0 x1) ⟨b0, trivial⟩
  · try simp only [if_neg b0] at h ⊢
    replace b0 := Bool.eq_false_iff.2 b0
    by_cases b1 : (Prod.fst (Prod.snd x0) != Prod.fst (Prod.snd x1)) = true
    · try simp only [if_pos b1] at h ⊢
      exact AtV.fin Try.func67 tabOk ext67Ok mixed (p67_1 x0 x1) ⟨b0, b1, trivial⟩
    · try simp only [if_neg b1] at h ⊢
      replace b1 := Bool.eq_false_iff.2 b1
      by_cases b2 : (Prod.fst (Prod.snd (Prod.snd x0)) != Prod.fst (Prod.snd (Prod.snd x1))) = true
      · try simp only [if_pos b2] at h ⊢
        exact AtV.fin Try.func67 tabOk ext67Ok mixed (p67_2 x0 x1) ⟨b0, b1, b2, trivial⟩
      · try simp only [if_neg b2] at h ⊢
        replace b2 := Bool.eq_false_iff.2 b2
        by_cases b3 : (Prod.fst (Prod.snd (Prod.snd (Prod.snd x0))) != Prod.fst (Prod.snd (Prod.snd (Prod.snd x1)))) = true
        · try simp only [if_pos b3] at h ⊢
          exact AtV.fin Try.func67 tabOk ext67Ok mixed (p67_3 x0 x1) ⟨b0, b1, b2, b3, trivial⟩
        · try simp only [if_neg b3] at h ⊢
          replace b3 := Bool.eq_false_iff.2 b3
          exact AtV.fin Try.func67 tabOk ext67Ok mixed (p67_4 x0 x1) ⟨b0, b1, b2, b3, trivial⟩

def S67 : Am.Spec := { sig := sig67, pre := fun ⟨x0, x1, _⟩ => P67 x0 x1, res := fun ⟨x0, x1, _⟩ => [⟨Ty.bool, g67_0 x0 x1⟩], kds := kds67 }
theorem con67 : Contract Try.prog 67 S67 := contract_of Try.func67 hb67 (Nat.le_of_ble_eq_true (by kernel_rfl)) (fun ⟨x0, x1, _⟩ h _ K q => at67 x0 x1 h K q)


theorem eqd67 (x y : (ByteArray × Int × Int × Int × Unit)) : g67_0 x y = true ↔ x = y := by
  obtain ⟨a, b, c, d, u⟩ := x
  obtain ⟨a', b', c', d', u'⟩ := y
  unfold g67_0
  simp only [Bool.not_eq_true', bytes_ne, bne_iff_ne, ne_eq, ite_not]
  by_cases h0 : a = a'
  · by_cases h1 : b = b'
    · by_cases h2 : c = c'
      · by_cases h3 : d = d'
        · simp [h0, h1, h2, h3]
        · simp [h0, h1, h2, h3]
      · simp [h0, h1, h2]
    · simp [h0, h1]
  · simp [h0]

end Go.Proofs.Ytpcfcplggpchjaa

/- Function 46 (laws.eqFareS): its runs between cut points. Written by a program of this repo (gen). -/
set_option linter.unusedVariables false
set_option linter.unusedSimpArgs false
set_option maxRecDepth 100000
namespace Go.Proofs.Ytpcfcplggpchjaa
open Go Go.Am Go.Proofs
def ext46 : Ext := [(67, S67)]
theorem call46_67 : Callable Try.prog 67 := ⟨Try.f67, Try.func67, by kernel_rfl, by kernel_rfl⟩
theorem ext46Ok : ExtOk Try.prog ext46 := ⟨⟨call46_67, con67⟩, trivial⟩

noncomputable def b46 : Code := bodyOf Try.f46
theorem hb46 : Try.f46.body = some b46 := by kernel_rfl
def sig46 : List AT := [AT.v (Ty.sl (Ty.cons Ty.str (Ty.cons (Ty.int IntKind.i64) (Ty.cons (Ty.int IntKind.i64) (Ty.cons (Ty.int IntKind.i64) Ty.unit))))), AT.v (Ty.sl (Ty.cons Ty.str (Ty.cons (Ty.int IntKind.i64) (Ty.cons (Ty.int IntKind.i64) (Ty.cons (Ty.int IntKind.i64) Ty.unit)))))]
def tys46 : List Ty := [Ty.bool]
def kds46 : List RK := []
def oks46 : List AT := owns sig46
def E46_4 (v5 : Int) (x0 : List (ByteArray × Int × Int × Int × Unit)) (x1 : List (ByteArray × Int × Int × Int × Unit)) : Env := [(0, PV.a (Atom.sl (Ty.cons Ty.str (Ty.cons (Ty.int IntKind.i64) (Ty.cons (Ty.int IntKind.i64) (Ty.cons (Ty.int IntKind.i64) Ty.unit)))) x0)), (1, PV.a (Atom.sl (Ty.cons Ty.str (Ty.cons (Ty.int IntKind.i64) (Ty.cons (Ty.int IntKind.i64) (Ty.cons (Ty.int IntKind.i64) Ty.unit)))) x1)), (5, PV.a (Atom.val (Value.int IntKind.i64 v5)))]
def L46_4 (v5 : Int) (x0 : List (ByteArray × Int × Int × Int × Unit)) (x1 : List (ByteArray × Int × Int × Int × Unit)) : Heap := []
mutual
def R46 : Nat → List (ByteArray × Int × Int × Int × Unit) → List (ByteArray × Int × Int × Int × Unit) → List Dyn → Prop
  | 0, _, _, _ => False
  | n + 1, x0, x1, ds => (if ((↑(List.length x0) : Int) != (↑(List.length x1) : Int)) = true then (ds = [Dyn.mk Ty.bool Bool.false]) else (R46_4 n (0) (x0) (x1) ds))
def R46_4 : Nat → Int → List (ByteArray × Int × Int × Int × Unit) → List (ByteArray × Int × Int × Int × Unit) → List Dyn → Prop
  | 0, _, _, _, _ => False
  | n + 1, v5, x0, x1, ds => (if (Decidable.decide (v5 < (↑(List.length x0) : Int))) = true then ((0 ≤ v5) ∧ (v5 < (↑(List.length x0) : Int)) ∧ ((0 ≤ v5) ∧ (v5 < (↑(List.length x1) : Int)) ∧ (if (!g67_0 (List.getD x0 (Int.toNat v5) (ByteArray.empty, 0, 0, 0, ())) (List.getD x1 (Int.toNat v5) (ByteArray.empty, 0, 0, 0, ()))) = true then (ds = [Dyn.mk Ty.bool Bool.false]) else ((InR IntKind.i64 (v5 + 1)) ∧ (R46_4 n (v5 + 1) (x0) (x1) ds))))) else (ds = [Dyn.mk Ty.bool Bool.true]))
end
theorem p46_0 (x0 : List (ByteArray × Int × Int × Int × Unit)) (x1 : List (ByteArray × Int × Int × Int × Unit)) : runF tab ext46 false 27 [] 2000 [] oks46 kds46 tys46 Try.f46.results [true] [.code b46] (entE 0 0 sig46 (x0, x1, ())) (entL sig46 (x0, x1, ())) = some ([Dyn.mk Ty.bool Bool.false], [], [((↑(List.length x0) : Int) != (↑(List.length x1) : Int)) = Bool.true]) := by kernel_rfl
theorem p46_1 (x0 : List (ByteArray × Int × Int × Int × Unit)) (x1 : List (ByteArray × Int × Int × Int × Unit)) : Am.runN tab ext46 false 27 [] 2000 [] [] [0, 1, 5] [] [false] [.code b46] (entE 0 0 sig46 (x0, x1, ())) (entL sig46 (x0, x1, ())) = some (cutAt b46 4, E46_4 (0) (x0) (x1), L46_4 (0) (x0) (x1), [((↑(List.length x0) : Int) != (↑(List.length x1) : Int)) = Bool.false]) := by kernel_rfl
theorem p46_2 (v5 : Int) (x0 : List (ByteArray × Int × Int × Int × Unit)) (x1 : List (ByteArray × Int × Int × Int × Unit)) : runF tab ext46 false 27 [] 2000 [] oks46 kds46 tys46 Try.f46.results [true, true] (cutAt b46 4) (E46_4 v5 x0 x1) (L46_4 v5 x0 x1) = some ([Dyn.mk Ty.bool Bool.false], [], [Decidable.decide (v5 < (↑(List.length x0) : Int)) = Bool.true, 0 ≤ v5, v5 < (↑(List.length x0) : Int), 0 ≤ v5, v5 < (↑(List.length x1) : Int), True, (!g67_0 (List.getD x0 (Int.toNat v5) (ByteArray.empty, 0, 0, 0, ())) (List.getD x1 (Int.toNat v5) (ByteArray.empty, 0, 0, 0, ()))) = Bool.true]) := by kernel_rfl
theorem p46_3 (v5 : Int) (x0 : List (ByteArray × Int × Int × Int × Unit)) (x1 : List (ByteArray × Int × Int × Int × Unit)) : Am.runN tab ext46 false 27 [] 2000 [] [] [0, 1, 5] [] [true, false] (cutAt b46 4) (E46_4 v5 x0 x1) (L46_4 v5 x0 x1) = some (cutAt b46 4, E46_4 (v5 + 1) (x0) (x1), L46_4 (v5 + 1) (x0) (x1), [Decidable.decide (v5 < (↑(List.length x0) : Int)) = Bool.true, 0 ≤ v5, v5 < (↑(List.length x0) : Int), 0 ≤ v5, v5 < (↑(List.length x1) : Int), True, (!g67_0 (List.getD x0 (Int.toNat v5) (ByteArray.empty, 0, 0, 0, ())) (List.getD x1 (Int.toNat v5) (ByteArray.empty, 0, 0, 0, ()))) = Bool.false, InR IntKind.i64 (v5 + 1)]) := by kernel_rfl
theorem p46_4 (v5 : Int) (x0 : List (ByteArray × Int × Int × Int × Unit)) (x1 : List (ByteArray × Int × Int × Int × Unit)) : runF tab ext46 false 27 [] 2000 [] oks46 kds46 tys46 Try.f46.results [false] (cutAt b46 4) (E46_4 v5 x0 x1) (L46_4 v5 x0 x1) = some ([Dyn.mk Ty.bool Bool.true], [], [Decidable.decide (v5 < (↑(List.length x0) : Int)) = Bool.false]) := by kernel_rfl
theorem snd46 : ∀ n, (∀ (x0 : List (ByteArray × Int × Int × Int × Unit)) (x1 : List (ByteArray × Int × Int × Int × Unit)) ds, R46 n x0 x1 ds → ∀ K q, AtV Try.prog 46 (PostR kds46 oks46 ds [] [] q K) 27 K q [] [.code b46] (entE 0 0 sig46 (x0, x1, ())) (entL sig46 (x0, x1, ()))) ∧ (∀ (v5 : Int) (x0 : List (ByteArray × Int × Int × Int × Unit)) (x1 : List (ByteArray × Int × Int × Int × Unit)) ds, R46_4 n v5 x0 x1 ds → ∀ K q, AtV Try.prog 46 (PostR kds46 oks46 ds [] [] q K) 27 K q [] (cutAt b46 4) (E46_4 v5 x0 x1) (L46_4 v5 x0 x1)) := by
  intro n
  induction n with
  | zero => exact ⟨fun _ _ _ h => by simp only [R46] at h, fun _ _ _ _ h => by simp only [R46_4] at h⟩
  | succ n ih =>
  obtain ⟨ih, ih4⟩ := ih
  refine ⟨?_, ?_⟩
  · intro x0 x1 ds h K q
    rw [R46] at h
    by_cases b0 : ((↑(List.length x0) : Int) != (↑(List.length x1) : Int)) = true
    · rw [if_pos b0] at h
      subst h
      exact AtV.fin Try.func46 tabOk ext46Ok mixed (p46_0 x0 x1) ⟨b0, trivial⟩
    · rw [if_neg b0] at h
      replace b0 := Bool.eq_false_iff.2 b0
      exact AtV.runN tabOk ext46Ok mixed (p46_1 x0 x1) ⟨b0, trivial⟩ (ih4 _ _ _ _ h K q)

  · intro v5 x0 x1 ds h K q
    rw [R46_4] at h
    by_cases b0 : (Decidable.decide (v5 < (↑(List.length x0) : Int))) = true
    · rw [if_pos b0] at h
      obtain ⟨s0, s1, h⟩ := h
      obtain ⟨s2, s3, h⟩ := h
      by_cases b1 : (!g67_0 (List.getD x0 (Int.toNat v5) (ByteArray.empty, 0, 0, 0, ())) (List.getD x1 (Int.toNat v5) (ByteArray.empty, 0, 0, 0, ()))) = true
      · rw [if_pos b1] at h
        subst h
        exact AtV.fin Try.func46 tabOk ext46Ok mixed (p46_2 v5 x0 x1) ⟨b0, s0, s1, s2, s3, trivial, b1, trivial⟩
      · rw [if_neg b1] at h
        replace b1 := Bool.eq_false_iff.2 b1
        obtain ⟨s4, h⟩ := h
        exact AtV.runN tabOk ext46Ok mixed (p46_3 v5 x0 x1) ⟨b0, s0, s1, s2, s3, trivial, b1, s4, trivial⟩ (ih4 _ _ _ _ h K q)
    · rw [if_neg b0] at h
      replace b0 := Bool.eq_false_iff.2 b0
      subst h
      exact AtV.fin Try.func46 tabOk ext46Ok mixed (p46_4 v5 x0 x1) ⟨b0, trivial⟩



theorem eq46 (x0 x1 : List (ByteArray × Int × Int × Int × Unit)) (hl : x0.length = x1.length) (hm : x0.length ≤ maxLen) : ∀ k i : Nat, i + k = x0.length → R46_4 (k + 1) (i : Int) x0 x1 [⟨.bool, decide (x0.drop i = x1.drop i)⟩] := by
  intro k
  induction k with
  | zero =>
    intro i hi
    have h1 : ¬ (i : Int) < (x0.length : Int) := by omega
    rw [R46_4, if_neg (by simpa using h1), drop_end x0 i (by omega), drop_end x1 i (by omega)]
    simp
  | succ k ih =>
    intro i hi
    have h1 : (i : Int) < (x0.length : Int) := by omega
    rw [R46_4, if_pos (by simpa using h1)]
    refine ⟨by omega, h1, by omega, by omega, ?_⟩
    simp only [Int.toNat_natCast]
    rw [drop_get x0 i (ByteArray.empty, (0 : Int), (0 : Int), (0 : Int), ()) (by omega), drop_get x1 i (ByteArray.empty, (0 : Int), (0 : Int), (0 : Int), ()) (by omega)]
    by_cases he : x0.getD i (ByteArray.empty, (0 : Int), (0 : Int), (0 : Int), ()) = x1.getD i (ByteArray.empty, (0 : Int), (0 : Int), (0 : Int), ())
    · have hd := (eqd67 _ _).2 he
      rw [if_neg (by rw [hd]; simp)]
      refine ⟨inR_up hm (by omega), ?_⟩
      have := ih (i + 1) (by omega)
      simp only [he, List.cons.injEq, true_and]
      exact this
    · have hd : g67_0 (x0.getD i (ByteArray.empty, (0 : Int), (0 : Int), (0 : Int), ())) (x1.getD i (ByteArray.empty, (0 : Int), (0 : Int), (0 : Int), ())) = false :=
        Bool.eq_false_iff.2 fun h => he ((eqd67 _ _).1 h)
      rw [if_pos (by rw [hd]; rfl)]
      simp only [he, List.cons.injEq, false_and, decide_false]

def g46_0 (x0 x1 : List (ByteArray × Int × Int × Int × Unit)) : Bool := decide (x0 = x1)
def P46 (x0 x1 : List (ByteArray × Int × Int × Int × Unit)) : Prop := True
def S46 : Am.Spec := { sig := sig46, pre := fun ⟨x0, x1, _⟩ => P46 x0 x1, res := fun ⟨x0, x1, _⟩ => [⟨Ty.bool, g46_0 x0 x1⟩] }
theorem con46 : Contract Try.prog 46 S46 := contract_of Try.func46 hb46 (Nat.le_of_ble_eq_true (by kernel_rfl)) (fun ⟨x0, x1, _⟩ h hwf K q => by
  refine (snd46 (x0.length + 2)).1 x0 x1 _ ?_ K q
  show R46 (x0.length + 1 + 1) x0 x1 [⟨Ty.bool, decide (x0 = x1)⟩]
  rw [R46]
  by_cases hl : x0.length = x1.length
  · rw [if_neg (by simp [hl])]
    have := eq46 x0 x1 hl hwf.1.1 x0.length 0 (by omega)
    simpa using this
  · rw [if_pos (by simp; omega)]
    have : x0 ≠ x1 := fun h => hl (by rw [h])
    simp [this])

end Go.Proofs.Ytpcfcplggpchjaa

/- Function 68 (laws.eqTest): its runs between cut points. Written by a program of this repo (gen). -/
set_option linter.unusedVariables false
set_option linter.unusedSimpArgs false
set_option maxRecDepth 100000
namespace Go.Proofs.Ytpcfcplggpchjaa
open Go Go.Am Go.Proofs
def ext68 : Ext := []
theorem ext68Ok : ExtOk Try.prog ext68 := trivial

noncomputable def b68 : Code := bodyOf Try.f68
theorem hb68 : Try.f68.body = some b68 := by kernel_rfl
def sig68 : List AT := [AT.v (Ty.cons (Ty.int IntKind.i64) (Ty.cons (Ty.int IntKind.i64) (Ty.cons (Ty.int IntKind.i64) Ty.unit))), AT.v (Ty.cons (Ty.int IntKind.i64) (Ty.cons (Ty.int IntKind.i64) (Ty.cons (Ty.int IntKind.i64) Ty.unit)))]
def tys68 : List Ty := [Ty.bool]
def kds68 : List RK := []
def oks68 : List AT := owns sig68
def P68 (x0 : Int × Int × Int × Unit) (x1 : Int × Int × Int × Unit) : Prop := True
def g68_0 (x0 : Int × Int × Int × Unit) (x1 : Int × Int × Int × Unit) : Bool := (if (Prod.fst x0 != Prod.fst x1) = true then Bool.false else (if (Prod.fst (Prod.snd x0) != Prod.fst (Prod.snd x1)) = true then Bool.false else (if (Prod.fst (Prod.snd (Prod.snd x0)) != Prod.fst (Prod.snd (Prod.snd x1))) = true then Bool.false else Bool.true)))
theorem p68_0 (x0 : Int × Int × Int × Unit) (x1 : Int × Int × Int × Unit) : runF tab ext68 false 20 [] 2000 [] oks68 kds68 tys68 Try.f68.results [true] [.code b68] (entE 0 0 sig68 (x0, x1, ())) (entL sig68 (x0, x1, ())) = some ([Dyn.mk Ty.bool Bool.false], [], [(Prod.fst x0 != Prod.fst x1) = Bool.true]) := by kernel_rfl
theorem p68_1 (x0 : Int × Int × Int × Unit) (x1 : Int × Int × Int × Unit) : runF tab ext68 false 20 [] 2000 [] oks68 kds68 tys68 Try.f68.results [false, true] [.code b68] (entE 0 0 sig68 (x0, x1, ())) (entL sig68 (x0, x1, ())) = some ([Dyn.mk Ty.bool Bool.false], [], [(Prod.fst x0 != Prod.fst x1) = Bool.false, (Prod.fst (Prod.snd x0) != Prod.fst (Prod.snd x1)) = Bool.true]) := by kernel_rfl
theorem p68_2 (x0 : Int × Int × Int × Unit) (x1 : Int × Int × Int × Unit) : runF tab ext68 false 20 [] 2000 [] oks68 kds68 tys68 Try.f68.results [false, false, true] [.code b68] (entE 0 0 sig68 (x0, x1, ())) (entL sig68 (x0, x1, ())) = some ([Dyn.mk Ty.bool Bool.false], [], [(Prod.fst x0 != Prod.fst x1) = Bool.false, (Prod.fst (Prod.snd x0) != Prod.fst (Prod.snd x1)) = Bool.false, (Prod.fst (Prod.snd (Prod.snd x0)) != Prod.fst (Prod.snd (Prod.snd x1))) = Bool.true]) := by kernel_rfl
theorem p68_3 (x0 : Int × Int × Int × Unit) (x1 : Int × Int × Int × Unit) : runF tab ext68 false 20 [] 2000 [] oks68 kds68 tys68 Try.f68.results [false, false, false] [.code b68] (entE 0 0 sig68 (x0, x1, ())) (entL sig68 (x0, x1, ())) = some ([Dyn.mk Ty.bool Bool.true], [], [(Prod.fst x0 != Prod.fst x1) = Bool.false, (Prod.fst (Prod.snd x0) != Prod.fst (Prod.snd x1)) = Bool.false, (Prod.fst (Prod.snd (Prod.snd x0)) != Prod.fst (Prod.snd (Prod.snd x1))) = Bool.false]) := by kernel_rfl
theorem at68 (x0 : Int × Int × Int × Unit) (x1 : Int × Int × Int × Unit) (h : P68 x0 x1) (K : Ctx) (q : Nat → Value) : AtV Try.prog 68 (PostR kds68 oks68 [⟨Ty.bool, g68_0 x0 x1⟩] [] [] q K) 20 K q [] [.code b68] (entE 0 0 sig68 (x0, x1, ())) (entL sig68 (x0, x1, ())) := by
  unfold P68 at h
  unfold g68_0
  by_cases b0 : (Prod.fst x0 != Prod.fst x1) = true
  · try simp only [if_pos b0] at h ⊢
    exact AtV.fin Try.func68 tabOk ext68Ok mixed (p68_0 x0 x1) ⟨b0, trivial⟩
  · try simp only [if_neg b0] at h ⊢
    replace b0 := Bool.eq_false_iff.2 b0
    by_cases b1 : (Prod.fst (Prod.snd x0) != Prod.fst (Prod.snd x1)) = true
    · try simp only [if_pos b1] at h ⊢
      exact AtV.fin Try.func68 tabOk ext68Ok mixed (p68_1 x0 x1) ⟨b0, b1, trivial⟩
    · try simp only [if_neg b1] at h ⊢
      replace b1 := Bool.eq_false_iff.2 b1
      by_cases b2 : (Prod.fst (Prod.snd (Prod.snd x0)) != Prod.fst (Prod.snd (Prod.snd x1))) = true
      · try simp only [if_pos b2] at h ⊢
        exact AtV.fin Try.func68 tabOk ext68Ok mixed (p68_2 x0 x1) ⟨b0, b1, b2, trivial⟩
      · try simp only [if_neg b2] at h ⊢
        replace b2 := Bool.eq_false_iff.2 b2
        exact AtV.fin Try.func68 tabOk ext68Ok mixed (p68_3 x0 x1) ⟨b0, b1, b2, trivial⟩

def S68 : Am.Spec := { sig := sig68, pre := fun ⟨x0, x1, _⟩ => P68 x0 x1, res := fun ⟨x0, x1, _⟩ => [⟨Ty.bool, g68_0 x0 x1⟩], kds := kds68 }
theorem con68 : Contract Try.prog 68 S68 := contract_of Try.func68 hb68 (Nat.le_of_ble_eq_true (by kernel_rfl)) (fun ⟨x0, x1, _⟩ h _ K q => at68 x0 x1 h K q)


theorem eqd68 (x y : (Int × Int × Int × Unit)) : g68_0 x y = true ↔ x = y := by
  obtain ⟨a, b, c, u⟩ := x
  obtain ⟨a', b', c', u'⟩ := y
  unfold g68_0
  simp only [Bool.not_eq_true', bytes_ne, bne_iff_ne, ne_eq, ite_not]
  by_cases h0 : a = a'
  · by_cases h1 : b = b'
    · by_cases h2 : c = c'
      · simp [h0, h1, h2]
      · simp [h0, h1, h2]
    · simp [h0, h1]
  · simp [h0]

end Go.Proofs.Ytpcfcplggpchjaa

/- Function 47 (laws.eqTestS): its runs between cut points. Written by a program of this repo (gen). -/
set_option linter.unusedVariables false
set_option linter.unusedSimpArgs false
set_option maxRecDepth 100000
namespace Go.Proofs.Ytpcfcplggpchjaa
open Go Go.Am Go.Proofs
def ext47 : Ext := [(68, S68)]
theorem call47_68 : Callable Try.prog 68 := ⟨Try.f68, Try.func68, by kernel_rfl, by kernel_rfl⟩
theorem ext47Ok : ExtOk Try.prog ext47 := ⟨⟨call47_68, con68⟩, trivial⟩

noncomputable def b47 : Code := bodyOf Try.f47
theorem hb47 : Try.f47.body = some b47 := by kernel_rfl
def sig47 : List AT := [AT.v (Ty.sl (Ty.cons (Ty.int IntKind.i64) (Ty.cons (Ty.int IntKind.i64) (Ty.cons (Ty.int IntKind.i64) Ty.unit)))), AT.v (Ty.sl (Ty.cons (Ty.int IntKind.i64) (Ty.cons (Ty.int IntKind.i64) (Ty.cons (Ty.int IntKind.i64) Ty.unit))))]
def tys47 : List Ty := [Ty.bool]
def kds47 : List RK := []
def oks47 : List AT := owns sig47
def E47_4 (v5 : Int) (x0 : List (Int × Int × Int × Unit)) (x1 : List (Int × Int × Int × Unit)) : Env := [(0, PV.a (Atom.sl (Ty.cons (Ty.int IntKind.i64) (Ty.cons (Ty.int IntKind.i64) (Ty.cons (Ty.int IntKind.i64) Ty.unit))) x0)), (1, PV.a (Atom.sl (Ty.cons (Ty.int IntKind.i64) (Ty.cons (Ty.int IntKind.i64) (Ty.cons (Ty.int IntKind.i64) Ty.unit))) x1)), (5, PV.a (Atom.val (Value.int IntKind.i64 v5)))]
def L47_4 (v5 : Int) (x0 : List (Int × Int × Int × Unit)) (x1 : List (Int × Int × Int × Unit)) : Heap := []
mutual
def R47 : Nat → List (Int × Int × Int × Unit) → List (Int × Int × Int × Unit) → List Dyn → Prop
  | 0, _, _, _ => False
  | n + 1, x0, x1, ds => (if ((↑(List.length x0) : Int) != (↑(List.length x1) : Int)) = true then (ds = [Dyn.mk Ty.bool Bool.false]) else (R47_4 n (0) (x0) (x1) ds))
def R47_4 : Nat → Int → List (Int × Int × Int × Unit) → List (Int × Int × Int × Unit) → List Dyn → Prop
  | 0, _, _, _, _ => False
  | n + 1, v5, x0, x1, ds => (if (Decidable.decide (v5 < (↑(List.length x0) : Int))) = true then ((0 ≤ v5) ∧ (v5 < (↑(List.length x0) : Int)) ∧ ((0 ≤ v5) ∧ (v5 < (↑(List.length x1) : Int)) ∧ (if (!g68_0 (List.getD x0 (Int.toNat v5) (0, 0, 0, ())) (List.getD x1 (Int.toNat v5) (0, 0, 0, ()))) = true then (ds = [Dyn.mk Ty.bool Bool.false]) else ((InR IntKind.i64 (v5 + 1)) ∧ (R47_4 n (v5 + 1) (x0) (x1) ds))))) else (ds = [Dyn.mk Ty.bool Bool.true]))
end
theorem p47_0 (x0 : List (Int × Int × Int × Unit)) (x1 : List (Int × Int × Int × Unit)) : runF tab ext47 false 27 [] 2000 [] oks47 kds47 tys47 Try.f47.results [true] [.code b47] (entE 0 0 sig47 (x0, x1, ())) (entL sig47 (x0, x1, ())) = some ([Dyn.mk Ty.bool Bool.false], [], [((↑(List.length x0) : Int) != (↑(List.length x1) : Int)) = Bool.true]) := by kernel_rfl
theorem p47_1 (x0 : List (Int × Int × Int × Unit)) (x1 : List (Int × Int × Int × Unit)) : Am.runN tab ext47 false 27 [] 2000 [] [] [0, 1, 5] [] [false] [.code b47] (entE 0 0 sig47 (x0, x1, ())) (entL sig47 (x0, x1, ())) = some (cutAt b47 4, E47_4 (0) (x0) (x1), L47_4 (0) (x0) (x1), [((↑(List.length x0) : Int) != (↑(List.length x1) : Int)) = Bool.false]) := by kernel_rfl
theorem p47_2 (v5 : Int) (x0 : List (Int × Int × Int × Unit)) (x1 : List (Int × Int × Int × Unit)) : runF tab ext47 false 27 [] 2000 [] oks47 kds47 tys47 Try.f47.results [true, true] (cutAt b47 4) (E47_4 v5 x0 x1) (L47_4 v5 x0 x1) = some ([Dyn.mk Ty.bool Bool.false], [], [Decidable.decide (v5 < (↑(List.length x0) : Int)) = Bool.true, 0 ≤ v5, v5 < (↑(List.length x0) : Int), 0 ≤ v5, v5 < (↑(List.length x1) : Int), True, (!g68_0 (List.getD x0 (Int.toNat v5) (0, 0, 0, ())) (List.getD x1 (Int.toNat v5) (0, 0, 0, ()))) = Bool.true]) := by kernel_rfl
theorem p47_3 (v5 : Int) (x0 : List (Int × Int × Int × Unit)) (x1 : List (Int × Int × Int × Unit)) : Am.runN tab ext47 false 27 [] 2000 [] [] [0, 1, 5] [] [true, false] (cutAt b47 4) (E47_4 v5 x0 x1) (L47_4 v5 x0 x1) = some (cutAt b47 4, E47_4 (v5 + 1) (x0) (x1), L47_4 (v5 + 1) (x0) (x1), [Decidable.decide (v5 < (↑(List.length x0) : Int)) = Bool.true, 0 ≤ v5, v5 < (↑(List.length x0) : Int), 0 ≤ v5, v5 < (↑(List.length x1) : Int), True, (!g68_0 (List.getD x0 (Int.toNat v5) (0, 0, 0, ())) (List.getD x1 (Int.toNat v5) (0, 0, 0, ()))) = Bool.false, InR IntKind.i64 (v5 + 1)]) := by kernel_rfl
theorem p47_4 (v5 : Int) (x0 : List (Int × Int × Int × Unit)) (x1 : List (Int × Int × Int × Unit)) : runF tab ext47 false 27 [] 2000 [] oks47 kds47 tys47 Try.f47.results [false] (cutAt b47 4) (E47_4 v5 x0 x1) (L47_4 v5 x0 x1) = some ([Dyn.mk Ty.bool Bool.true], [], [Decidable.decide (v5 < (↑(List.length x0) : Int)) = Bool.false]) := by kernel_rfl
theorem snd47 : ∀ n, (∀ (x0 : List (Int × Int × Int × Unit)) (x1 : List (Int × Int × Int × Unit)) ds, R47 n x0 x1 ds → ∀ K q, AtV Try.prog 47 (PostR kds47 oks47 ds [] [] q K) 27 K q [] [.code b47] (entE 0 0 sig47 (x0, x1, ())) (entL sig47 (x0, x1, ()))) ∧ (∀ (v5 : Int) (x0 : List (Int × Int × Int × Unit)) (x1 : List (Int × Int × Int × Unit)) ds, R47_4 n v5 x0 x1 ds → ∀ K q, AtV Try.prog 47 (PostR kds47 oks47 ds [] [] q K) 27 K q [] (cutAt b47 4) (E47_4 v5 x0 x1) (L47_4 v5 x0 x1)) := by
  intro n
  induction n with
  | zero => exact ⟨fun _ _ _ h => by simp only [R47] at h, fun _ _ _ _ h => by simp only [R47_4] at h⟩
  | succ n ih =>
  obtain ⟨ih, ih4⟩ := ih
  refine ⟨?_, ?_⟩
  · intro x0 x1 ds h K q
    rw [R47] at h
    by_cases b0 : ((↑(List.length x0) : Int) != (↑(List.length x1) : Int)) = true
    · rw [if_pos b0] at h
      subst h
      exact AtV.fin Try.func47 tabOk ext47Ok mixed (p47_0 x0 x1) ⟨b0, trivial⟩
    · rw [if_neg b0] at h
      replace b0 := Bool.eq_false_iff.2 b0
      exact AtV.runN tabOk ext47Ok mixed (p47_1 x0 x1) ⟨b0, trivial⟩ (ih4 _ _ _ _ h K q)

  · intro v5 x0 x1 ds h K q
    rw [R47_4] at h
    by_cases b0 : (Decidable.decide (v5 < (↑(List.length x0) : Int))) = true
    · rw [if_pos b0] at h
      obtain ⟨s0, s1, h⟩ := h
      obtain ⟨s2, s3, h⟩ := h
      by_cases b1 : (!g68_0 (List.getD x0 (Int.toNat v5) (0, 0, 0, ())) (List.getD x1 (Int.toNat v5) (0, 0, 0, ()))) = true
      · rw [if_pos b1] at h
        subst h
        exact AtV.fin Try.func47 tabOk ext47Ok mixed (p47_2 v5 x0 x1) ⟨b0, s0, s1, s2, s3, trivial, b1, trivial⟩
      · rw [if_neg b1] at h
        replace b1 := Bool.eq_false_iff.2 b1
        obtain ⟨s4, h⟩ := h
        exact AtV.runN tabOk ext47Ok mixed (p47_3 v5 x0 x1) ⟨b0, s0, s1, s2, s3, trivial, b1, s4, trivial⟩ (ih4 _ _ _ _ h K q)
    · rw [if_neg b0] at h
      replace b0 := Bool.eq_false_iff.2 b0
      subst h
      exact AtV.fin Try.func47 tabOk ext47Ok mixed (p47_4 v5 x0 x1) ⟨b0, trivial⟩



theorem eq47 (x0 x1 : List (Int × Int × Int × Unit)) (hl : x0.length = x1.length) (hm : x0.length ≤ maxLen) : ∀ k i : Nat, i + k = x0.length → R47_4 (k + 1) (i : Int) x0 x1 [⟨.bool, decide (x0.drop i = x1.drop i)⟩] := by
  intro k
  induction k with
  | zero =>
    intro i hi
    have h1 : ¬ (i : Int) < (x0.length : Int) := by omega
    rw [R47_4, if_neg (by simpa using h1), drop_end x0 i (by omega), drop_end x1 i (by omega)]
    simp
  | succ k ih =>
    intro i hi
    have h1 : (i : Int) < (x0.length : Int) := by omega
    rw [R47_4, if_pos (by simpa using h1)]
    refine ⟨by omega, h1, by omega, by omega, ?_⟩
    simp only [Int.toNat_natCast]
    rw [drop_get x0 i ((0 : Int), (0 : Int), (0 : Int), ()) (by omega), drop_get x1 i ((0 : Int), (0 : Int), (0 : Int), ()) (by omega)]
    by_cases he : x0.getD i ((0 : Int), (0 : Int), (0 : Int), ()) = x1.getD i ((0 : Int), (0 : Int), (0 : Int), ())
    · have hd := (eqd68 _ _).2 he
      rw [if_neg (by rw [hd]; simp)]
      refine ⟨inR_up hm (by omega), ?_⟩
      have := ih (i + 1) (by omega)
      simp only [he, List.cons.injEq, true_and]
      exact this
    · have hd : g68_0 (x0.getD i ((0 : Int), (0 : Int), (0 : Int), ())) (x1.getD i ((0 : Int), (0 : Int), (0 : Int), ())) = false :=
        Bool.eq_false_iff.2 fun h => he ((eqd68 _ _).1 h)
      rw [if_pos (by rw [hd]; rfl)]
      simp only [he, List.cons.injEq, false_and, decide_false]

def g47_0 (x0 x1 : List (Int × Int × Int × Unit)) : Bool := decide (x0 = x1)
def P47 (x0 x1 : List (Int × Int × Int × Unit)) : Prop := True
def S47 : Am.Spec := { sig := sig47, pre := fun ⟨x0, x1, _⟩ => P47 x0 x1, res := fun ⟨x0, x1, _⟩ => [⟨Ty.bool, g47_0 x0 x1⟩] }
theorem con47 : Contract Try.prog 47 S47 := contract_of Try.func47 hb47 (Nat.le_of_ble_eq_true (by kernel_rfl)) (fun ⟨x0, x1, _⟩ h hwf K q => by
  refine (snd47 (x0.length + 2)).1 x0 x1 _ ?_ K q
  show R47 (x0.length + 1 + 1) x0 x1 [⟨Ty.bool, decide (x0 = x1)⟩]
  rw [R47]
  by_cases hl : x0.length = x1.length
  · rw [if_neg (by simp [hl])]
    have := eq47 x0 x1 hl hwf.1.1 x0.length 0 (by omega)
    simpa using this
  · rw [if_pos (by simp; omega)]
    have : x0 ≠ x1 := fun h => hl (by rw [h])
    simp [this])

end Go.Proofs.Ytpcfcplggpchjaa

/- Function 69 (laws.eqHelper): its runs between cut points. Written by a program of this repo (gen). -/
set_option linter.unusedVariables false
set_option linter.unusedSimpArgs false
set_option maxRecDepth 100000
namespace Go.Proofs.Ytpcfcplggpchjaa
open Go Go.Am Go.Proofs
def ext69 : Ext := []
theorem ext69Ok : ExtOk Try.prog ext69 := trivial

noncomputable def b69 : Code := bodyOf Try.f69
theorem hb69 : Try.f69.body = some b69 := by kernel_rfl
def sig69 : List AT := [AT.v (Ty.cons Ty.str (Ty.cons (Ty.int IntKind.i64) (Ty.cons (Ty.int IntKind.i64) Ty.unit))), AT.v (Ty.cons Ty.str (Ty.cons (Ty.int IntKind.i64) (Ty.cons (Ty.int IntKind.i64) Ty.unit)))]
def tys69 : List Ty := [Ty.bool]
def kds69 : List RK := []
def oks69 : List AT := owns sig69
def P69 (x0 : ByteArray × Int × Int × Unit) (x1 : ByteArray × Int × Int × Unit) : Prop := True
def g69_0 (x0 : ByteArray × Int × Int × Unit) (x1 : ByteArray × Int × Int × Unit) : Bool := (if (!ByteArray.toList (Prod.fst x0) == ByteArray.toList (Prod.fst x1)) = true then Bool.false else (if (Prod.fst (Prod.snd x0) != Prod.fst (Prod.snd x1)) = true then Bool.false else (if (Prod.fst (Prod.snd (Prod.snd x0)) != Prod.fst (Prod.snd (Prod.snd x1))) = true then Bool.false else Bool.true)))
theorem p69_0 (x0 : ByteArray × Int × Int × Unit) (x1 : ByteArray × Int × Int × Unit) : runF tab ext69 false 20 [] 2000 [] oks69 kds69 tys69 Try.f69.results [true] [.code b69] (entE 0 0 sig69 (x0, x1, ())) (entL sig69 (x0, x1, ())) = some ([Dyn.mk Ty.bool Bool.false], [], [(!ByteArray.toList (Prod.fst x0) == ByteArray.toList (Prod.fst x1)) = Bool.true]) := by kernel_rfl
theorem p69_1 (x0 : ByteArray × Int × Int × Unit) (x1 : ByteArray × Int × Int × Unit) : runF tab ext69 false 20 [] 2000 [] oks69 kds69 tys69 Try.f69.results [false, true] [.code b69] (entE 0 0 sig69 (x0, x1, ())) (entL sig69 (x0, x1, ())) = some ([Dyn.mk Ty.bool Bool.false], [], [(!ByteArray.toList (Prod.fst x0) == ByteArray.toList (Prod.fst x1)) = Bool.false, (Prod.fst (Prod.snd x0) != Prod.fst (Prod.snd x1)) = Bool.true]) := by kernel_rfl
theorem p69_2 (x0 : ByteArray × Int × Int × Unit) (x1 : ByteArray × Int × Int × Unit) : runF tab ext69 false 20 [] 2000 [] oks69 kds69 tys69 Try.f69.results [false, false, true] [.code b69] (entE 0 0 sig69 (x0, x1, ())) (entL sig69 (x0, x1, ())) = some ([Dyn.mk Ty.bool Bool.false], [], [(!ByteArray.toList (Prod.fst x0) == ByteArray.toList (Prod.fst x1)) = Bool.false, (Prod.fst (Prod.snd x0) != Prod.fst (Prod.snd x1)) = Bool.false, (Prod.fst (Prod.snd (Prod.snd x0)) != Prod.fst (Prod.snd (Prod.snd x1))) = Bool.true]) := by kernel_rfl
theorem p69_3 (x0 : ByteArray × Int × Int × Unit) (x1 : ByteArray × Int × Int × Unit) : runF tab ext69 false 20 [] 2000 [] oks69 kds69 tys69 Try.f69.results [false, false, false] [.code b69] (entE 0 0 sig69 (x0, x1, ())) (entL sig69 (x0, x1, ())) = some ([Dyn.mk Ty.bool Bool.true], [], [(!ByteArray.toList (Prod.fst x0) == ByteArray.toList (Prod.fst x1)) = Bool.false, (Prod.fst (Prod.snd x0) != Prod.fst (Prod.snd x1)) = Bool.false, (Prod.fst (Prod.snd (Prod.snd x0)) != Prod.fst (Prod.snd (Prod.snd x1))) = Bool.false]) := by kernel_rfl
theorem at69 (x0 : ByteArray × Int × Int × Unit) (x1 : ByteArray × Int × Int × Unit) (h : P69 x0 x1) (K : Ctx) (q : Nat → Value) : AtV Try.prog 69 (PostR kds69 oks69 [⟨Ty.bool, g69_0 x0 x1⟩] [] [] q K) 20 K q [] [.code b69] (entE 0 0 sig69 (x0, x1, ())) (entL sig69 (x0, x1, ())) := by
  unfold P69 at h
  unfold g69_0
  by_cases b0 : (!ByteArray.toList (Prod.fst x0) == ByteArray.toList (Prod.fst x1)) = true
  · try simp only [if_pos b0] at h ⊢
    exact AtV.fin Try.func69 tabOk ext69Ok mixed (p69_0 x0 x1) ⟨b0, trivial⟩
  · try simp only [if_neg b0] at h ⊢
    replace b0 := Bool.eq_false_iff.2 b0
    by_cases b1 : (Prod.fst (Prod.snd x0) != Prod.fst (Prod.snd x1)) = true
    · try simp only [if_pos b1] at h ⊢
      exact AtV.fin Try.func69 tabOk ext69Ok mixed (p69_1 x0 x1) ⟨b0, b1, trivial⟩
    · try simp only [if_neg b1] at h ⊢
      replace b1 := Bool.eq_false_iff.2 b1
      by_cases b2 : (Prod.fst (Prod.snd (Prod.snd x0)) != Prod.fst (Prod.snd (Prod.snd x1))) = true
      · try simp only [if_pos b2] at h ⊢
        exact AtV.fin Try.func69 tabOk ext69Ok mixed (p69_2 x0 x1) ⟨b0, b1, b2, trivial⟩
      · try simp only [if_neg b2] at h ⊢
        replace b2 := Bool.eq_false_iff.2 b2
        exact AtV.fin Try.func69 tabOk ext69Ok mixed (p69_3 x0 x1) ⟨b0, b1, b2, trivial⟩

def S69 : Am.Spec := { sig := sig69, pre := fun ⟨x0, x1, _⟩ => P69 x0 x1, res := fun ⟨x0, x1, _⟩ => [⟨Ty.bool, g69_0 x0 x1⟩], kds := kds69 }
theorem con69 : Contract Try.prog 69 S69 := contract_of Try.func69 hb69 (Nat.le_of_ble_eq_true (by kernel_rfl)) (fun ⟨x0, x1, _⟩ h _ K q => at69 x0 x1 h K q)


theorem eqd69 (x y : (ByteArray × Int × Int × Unit)) : g69_0 x y = true ↔ x = y := by
  obtain ⟨a, b, c, u⟩ := x
  obtain ⟨a', b', c', u'⟩ := y
  unfold g69_0
  simp only [Bool.not_eq_true', bytes_ne, bne_iff_ne, ne_eq, ite_not]
  by_cases h0 : a = a'
  · by_cases h1 : b = b'
    · by_cases h2 : c = c'
      · simp [h0, h1, h2]
      · simp [h0, h1, h2]
    · simp [h0, h1]
  · simp [h0]

end Go.Proofs.Ytpcfcplggpchjaa
