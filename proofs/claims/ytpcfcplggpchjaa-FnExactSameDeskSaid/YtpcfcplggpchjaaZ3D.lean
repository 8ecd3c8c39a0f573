/- Several texts in one: the functions that this law reaches, and their laws. -/
import Derived.Test.YtpcfcplggpchjaaZ3A
import Derived.Test.YtpcfcplggpchjaaZ3B
import Derived.Test.YtpcfcplggpchjaaZ3C

/- Function 7 (impl.SameDesk): its runs between cut points. Written by a program of this repo (gen). -/
set_option linter.unusedVariables false
set_option linter.unusedSimpArgs false
set_option maxRecDepth 100000
namespace Go.Proofs.Ytpcfcplggpchjaa
open Go Go.Am Go.Proofs
def ext7 : Ext := [(30, S30), (31, S31), (32, S32), (33, S33), (34, S34), (35, S35), (36, S36), (37, S37)]
theorem call7_30 : Callable Try.prog 30 := ⟨Try.f30, Try.func30, by kernel_rfl, by kernel_rfl⟩
theorem call7_31 : Callable Try.prog 31 := ⟨Try.f31, Try.func31, by kernel_rfl, by kernel_rfl⟩
theorem call7_32 : Callable Try.prog 32 := ⟨Try.f32, Try.func32, by kernel_rfl, by kernel_rfl⟩
theorem call7_33 : Callable Try.prog 33 := ⟨Try.f33, Try.func33, by kernel_rfl, by kernel_rfl⟩
theorem call7_34 : Callable Try.prog 34 := ⟨Try.f34, Try.func34, by kernel_rfl, by kernel_rfl⟩
theorem call7_35 : Callable Try.prog 35 := ⟨Try.f35, Try.func35, by kernel_rfl, by kernel_rfl⟩
theorem call7_36 : Callable Try.prog 36 := ⟨Try.f36, Try.func36, by kernel_rfl, by kernel_rfl⟩
theorem call7_37 : Callable Try.prog 37 := ⟨Try.f37, Try.func37, by kernel_rfl, by kernel_rfl⟩
theorem ext7Ok : ExtOk Try.prog ext7 := ⟨⟨call7_30, con30⟩, ⟨call7_31, con31⟩, ⟨call7_32, con32⟩, ⟨call7_33, con33⟩, ⟨call7_34, con34⟩, ⟨call7_35, con35⟩, ⟨call7_36, con36⟩, ⟨call7_37, con37⟩, trivial⟩

noncomputable def b7 : Code := bodyOf Try.f7
theorem hb7 : Try.f7.body = some b7 := by kernel_rfl
def sig7 : List AT := [AT.v (Ty.cons (Ty.sl (Ty.cons Ty.str (Ty.cons (Ty.int IntKind.i64) (Ty.cons (Ty.int IntKind.i64) (Ty.cons (Ty.int IntKind.i64) Ty.unit))))) (Ty.cons (Ty.cons (Ty.int IntKind.i64) (Ty.cons (Ty.int IntKind.i64) (Ty.cons (Ty.int IntKind.i64) (Ty.cons (Ty.int IntKind.i64) Ty.unit)))) (Ty.cons (Ty.sl (Ty.cons (Ty.int IntKind.i64) (Ty.cons (Ty.int IntKind.i64) (Ty.cons (Ty.int IntKind.i64) Ty.unit)))) (Ty.cons (Ty.sl (Ty.cons (Ty.int IntKind.i64) (Ty.cons (Ty.int IntKind.i64) (Ty.cons (Ty.int IntKind.i64) Ty.unit)))) (Ty.cons (Ty.cons (Ty.int IntKind.i64) (Ty.cons (Ty.int IntKind.i64) (Ty.cons (Ty.int IntKind.i64) Ty.unit))) (Ty.cons (Ty.cons (Ty.int IntKind.i64) (Ty.cons (Ty.int IntKind.i64) (Ty.cons (Ty.int IntKind.i64) Ty.unit))) (Ty.cons (Ty.sl (Ty.cons Ty.str (Ty.cons (Ty.int IntKind.i64) (Ty.cons (Ty.int IntKind.i64) Ty.unit)))) (Ty.cons (Ty.cons (Ty.int IntKind.i64) (Ty.cons (Ty.int IntKind.i64) (Ty.cons (Ty.int IntKind.i64) (Ty.cons (Ty.int IntKind.i64) Ty.unit)))) (Ty.cons (Ty.sl (Ty.cons Ty.str (Ty.cons (Ty.int IntKind.i64) (Ty.cons (Ty.int IntKind.i64) (Ty.cons (Ty.int IntKind.i64) Ty.unit))))) (Ty.cons (Ty.sl (Ty.cons (Ty.int IntKind.i64) (Ty.cons (Ty.int IntKind.i64) (Ty.cons (Ty.int IntKind.i64) Ty.unit)))) (Ty.cons (Ty.sl (Ty.cons Ty.str (Ty.cons (Ty.int IntKind.i64) (Ty.cons (Ty.int IntKind.i64) Ty.unit)))) (Ty.cons (Ty.sl (Ty.cons Ty.str (Ty.cons (Ty.int IntKind.i64) (Ty.cons (Ty.int IntKind.i64) Ty.unit)))) Ty.unit)))))))))))), AT.v (Ty.cons (Ty.sl (Ty.cons Ty.str (Ty.cons (Ty.int IntKind.i64) (Ty.cons (Ty.int IntKind.i64) (Ty.cons (Ty.int IntKind.i64) Ty.unit))))) (Ty.cons (Ty.cons (Ty.int IntKind.i64) (Ty.cons (Ty.int IntKind.i64) (Ty.cons (Ty.int IntKind.i64) (Ty.cons (Ty.int IntKind.i64) Ty.unit)))) (Ty.cons (Ty.sl (Ty.cons (Ty.int IntKind.i64) (Ty.cons (Ty.int IntKind.i64) (Ty.cons (Ty.int IntKind.i64) Ty.unit)))) (Ty.cons (Ty.sl (Ty.cons (Ty.int IntKind.i64) (Ty.cons (Ty.int IntKind.i64) (Ty.cons (Ty.int IntKind.i64) Ty.unit)))) (Ty.cons (Ty.cons (Ty.int IntKind.i64) (Ty.cons (Ty.int IntKind.i64) (Ty.cons (Ty.int IntKind.i64) Ty.unit))) (Ty.cons (Ty.cons (Ty.int IntKind.i64) (Ty.cons (Ty.int IntKind.i64) (Ty.cons (Ty.int IntKind.i64) Ty.unit))) (Ty.cons (Ty.sl (Ty.cons Ty.str (Ty.cons (Ty.int IntKind.i64) (Ty.cons (Ty.int IntKind.i64) Ty.unit)))) (Ty.cons (Ty.cons (Ty.int IntKind.i64) (Ty.cons (Ty.int IntKind.i64) (Ty.cons (Ty.int IntKind.i64) (Ty.cons (Ty.int IntKind.i64) Ty.unit)))) (Ty.cons (Ty.sl (Ty.cons Ty.str (Ty.cons (Ty.int IntKind.i64) (Ty.cons (Ty.int IntKind.i64) (Ty.cons (Ty.int IntKind.i64) Ty.unit))))) (Ty.cons (Ty.sl (Ty.cons (Ty.int IntKind.i64) (Ty.cons (Ty.int IntKind.i64) (Ty.cons (Ty.int IntKind.i64) Ty.unit)))) (Ty.cons (Ty.sl (Ty.cons Ty.str (Ty.cons (Ty.int IntKind.i64) (Ty.cons (Ty.int IntKind.i64) Ty.unit)))) (Ty.cons (Ty.sl (Ty.cons Ty.str (Ty.cons (Ty.int IntKind.i64) (Ty.cons (Ty.int IntKind.i64) Ty.unit)))) Ty.unit))))))))))))]
def tys7 : List Ty := [Ty.bool]
def kds7 : List RK := []
def oks7 : List AT := owns sig7
def P7 (x0 : TyA0) (x1 : TyA0) : Prop := True
def g7_0 (x0 : TyA0) (x1 : TyA0) : Bool := (if (g30_0 (Prod.fst x0) (Prod.fst x1)) = true then (if (eqD (Ty.cons (Ty.int IntKind.i64) (Ty.cons (Ty.int IntKind.i64) (Ty.cons (Ty.int IntKind.i64) (Ty.cons (Ty.int IntKind.i64) Ty.unit)))) (Prod.fst (Prod.snd x0)) (Prod.fst (Prod.snd x1))) = true then (if (g31_0 (Prod.fst (Prod.snd (Prod.snd x0))) (Prod.fst (Prod.snd (Prod.snd x1)))) = true then (if (g32_0 (Prod.fst (Prod.snd (Prod.snd (Prod.snd x0)))) (Prod.fst (Prod.snd (Prod.snd (Prod.snd x1))))) = true then (if (eqD (Ty.cons (Ty.int IntKind.i64) (Ty.cons (Ty.int IntKind.i64) (Ty.cons (Ty.int IntKind.i64) Ty.unit))) (Prod.fst (Prod.snd (Prod.snd (Prod.snd (Prod.snd (Prod.snd x0)))))) (Prod.fst (Prod.snd (Prod.snd (Prod.snd (Prod.snd (Prod.snd x1))))))) = true then (if (g33_0 (Prod.fst (Prod.snd (Prod.snd (Prod.snd (Prod.snd (Prod.snd (Prod.snd x0))))))) (Prod.fst (Prod.snd (Prod.snd (Prod.snd (Prod.snd (Prod.snd (Prod.snd x1)))))))) = true then (if (eqD (Ty.cons (Ty.int IntKind.i64) (Ty.cons (Ty.int IntKind.i64) (Ty.cons (Ty.int IntKind.i64) (Ty.cons (Ty.int IntKind.i64) Ty.unit)))) (Prod.fst (Prod.snd (Prod.snd (Prod.snd (Prod.snd (Prod.snd (Prod.snd (Prod.snd x0)))))))) (Prod.fst (Prod.snd (Prod.snd (Prod.snd (Prod.snd (Prod.snd (Prod.snd (Prod.snd x1))))))))) = true then (if (eqD (Ty.cons (Ty.int IntKind.i64) (Ty.cons (Ty.int IntKind.i64) (Ty.cons (Ty.int IntKind.i64) Ty.unit))) (Prod.fst (Prod.snd (Prod.snd (Prod.snd (Prod.snd x0))))) (Prod.fst (Prod.snd (Prod.snd (Prod.snd (Prod.snd x1)))))) = true then (if (g34_0 (Prod.fst (Prod.snd (Prod.snd (Prod.snd (Prod.snd (Prod.snd (Prod.snd (Prod.snd (Prod.snd x0))))))))) (Prod.fst (Prod.snd (Prod.snd (Prod.snd (Prod.snd (Prod.snd (Prod.snd (Prod.snd (Prod.snd x1)))))))))) = true then (if (g35_0 (Prod.fst (Prod.snd (Prod.snd (Prod.snd (Prod.snd (Prod.snd (Prod.snd (Prod.snd (Prod.snd (Prod.snd x0)))))))))) (Prod.fst (Prod.snd (Prod.snd (Prod.snd (Prod.snd (Prod.snd (Prod.snd (Prod.snd (Prod.snd (Prod.snd x1))))))))))) = true then (if (g36_0 (Prod.fst (Prod.snd (Prod.snd (Prod.snd (Prod.snd (Prod.snd (Prod.snd (Prod.snd (Prod.snd (Prod.snd (Prod.snd x0))))))))))) (Prod.fst (Prod.snd (Prod.snd (Prod.snd (Prod.snd (Prod.snd (Prod.snd (Prod.snd (Prod.snd (Prod.snd (Prod.snd x1)))))))))))) = true then g37_0 (Prod.fst (Prod.snd (Prod.snd (Prod.snd (Prod.snd (Prod.snd (Prod.snd (Prod.snd (Prod.snd (Prod.snd (Prod.snd (Prod.snd x0)))))))))))) (Prod.fst (Prod.snd (Prod.snd (Prod.snd (Prod.snd (Prod.snd (Prod.snd (Prod.snd (Prod.snd (Prod.snd (Prod.snd (Prod.snd x1)))))))))))) else Bool.false) else Bool.false) else Bool.false) else Bool.false) else (if (eqD (Ty.cons (Ty.int IntKind.i64) (Ty.cons (Ty.int IntKind.i64) (Ty.cons (Ty.int IntKind.i64) Ty.unit))) (Prod.fst (Prod.snd (Prod.snd (Prod.snd (Prod.snd x0))))) (Prod.fst (Prod.snd (Prod.snd (Prod.snd (Prod.snd x1)))))) = true then Bool.false else Bool.false)) else (if (eqD (Ty.cons (Ty.int IntKind.i64) (Ty.cons (Ty.int IntKind.i64) (Ty.cons (Ty.int IntKind.i64) Ty.unit))) (Prod.fst (Prod.snd (Prod.snd (Prod.snd (Prod.snd x0))))) (Prod.fst (Prod.snd (Prod.snd (Prod.snd (Prod.snd x1)))))) = true then Bool.false else Bool.false)) else (if (eqD (Ty.cons (Ty.int IntKind.i64) (Ty.cons (Ty.int IntKind.i64) (Ty.cons (Ty.int IntKind.i64) Ty.unit))) (Prod.fst (Prod.snd (Prod.snd (Prod.snd (Prod.snd x0))))) (Prod.fst (Prod.snd (Prod.snd (Prod.snd (Prod.snd x1)))))) = true then Bool.false else Bool.false)) else (if (eqD (Ty.cons (Ty.int IntKind.i64) (Ty.cons (Ty.int IntKind.i64) (Ty.cons (Ty.int IntKind.i64) Ty.unit))) (Prod.fst (Prod.snd (Prod.snd (Prod.snd (Prod.snd (Prod.snd x0)))))) (Prod.fst (Prod.snd (Prod.snd (Prod.snd (Prod.snd (Prod.snd x1))))))) = true then (if (g33_0 (Prod.fst (Prod.snd (Prod.snd (Prod.snd (Prod.snd (Prod.snd (Prod.snd x0))))))) (Prod.fst (Prod.snd (Prod.snd (Prod.snd (Prod.snd (Prod.snd (Prod.snd x1)))))))) = true then (if (eqD (Ty.cons (Ty.int IntKind.i64) (Ty.cons (Ty.int IntKind.i64) (Ty.cons (Ty.int IntKind.i64) (Ty.cons (Ty.int IntKind.i64) Ty.unit)))) (Prod.fst (Prod.snd (Prod.snd (Prod.snd (Prod.snd (Prod.snd (Prod.snd (Prod.snd x0)))))))) (Prod.fst (Prod.snd (Prod.snd (Prod.snd (Prod.snd (Prod.snd (Prod.snd (Prod.snd x1))))))))) = true then Bool.false else Bool.false) else Bool.false) else Bool.false)) else (if (eqD (Ty.cons (Ty.int IntKind.i64) (Ty.cons (Ty.int IntKind.i64) (Ty.cons (Ty.int IntKind.i64) Ty.unit))) (Prod.fst (Prod.snd (Prod.snd (Prod.snd (Prod.snd (Prod.snd x0)))))) (Prod.fst (Prod.snd (Prod.snd (Prod.snd (Prod.snd (Prod.snd x1))))))) = true then (if (g33_0 (Prod.fst (Prod.snd (Prod.snd (Prod.snd (Prod.snd (Prod.snd (Prod.snd x0))))))) (Prod.fst (Prod.snd (Prod.snd (Prod.snd (Prod.snd (Prod.snd (Prod.snd x1)))))))) = true then (if (eqD (Ty.cons (Ty.int IntKind.i64) (Ty.cons (Ty.int IntKind.i64) (Ty.cons (Ty.int IntKind.i64) (Ty.cons (Ty.int IntKind.i64) Ty.unit)))) (Prod.fst (Prod.snd (Prod.snd (Prod.snd (Prod.snd (Prod.snd (Prod.snd (Prod.snd x0)))))))) (Prod.fst (Prod.snd (Prod.snd (Prod.snd (Prod.snd (Prod.snd (Prod.snd (Prod.snd x1))))))))) = true then Bool.false else Bool.false) else Bool.false) else Bool.false)) else (if (eqD (Ty.cons (Ty.int IntKind.i64) (Ty.cons (Ty.int IntKind.i64) (Ty.cons (Ty.int IntKind.i64) Ty.unit))) (Prod.fst (Prod.snd (Prod.snd (Prod.snd (Prod.snd (Prod.snd x0)))))) (Prod.fst (Prod.snd (Prod.snd (Prod.snd (Prod.snd (Prod.snd x1))))))) = true then (if (g33_0 (Prod.fst (Prod.snd (Prod.snd (Prod.snd (Prod.snd (Prod.snd (Prod.snd x0))))))) (Prod.fst (Prod.snd (Prod.snd (Prod.snd (Prod.snd (Prod.snd (Prod.snd x1)))))))) = true then (if (eqD (Ty.cons (Ty.int IntKind.i64) (Ty.cons (Ty.int IntKind.i64) (Ty.cons (Ty.int IntKind.i64) (Ty.cons (Ty.int IntKind.i64) Ty.unit)))) (Prod.fst (Prod.snd (Prod.snd (Prod.snd (Prod.snd (Prod.snd (Prod.snd (Prod.snd x0)))))))) (Prod.fst (Prod.snd (Prod.snd (Prod.snd (Prod.snd (Prod.snd (Prod.snd (Prod.snd x1))))))))) = true then Bool.false else Bool.false) else Bool.false) else Bool.false)) else (if (eqD (Ty.cons (Ty.int IntKind.i64) (Ty.cons (Ty.int IntKind.i64) (Ty.cons (Ty.int IntKind.i64) Ty.unit))) (Prod.fst (Prod.snd (Prod.snd (Prod.snd (Prod.snd (Prod.snd x0)))))) (Prod.fst (Prod.snd (Prod.snd (Prod.snd (Prod.snd (Prod.snd x1))))))) = true then (if (g33_0 (Prod.fst (Prod.snd (Prod.snd (Prod.snd (Prod.snd (Prod.snd (Prod.snd x0))))))) (Prod.fst (Prod.snd (Prod.snd (Prod.snd (Prod.snd (Prod.snd (Prod.snd x1)))))))) = true then (if (eqD (Ty.cons (Ty.int IntKind.i64) (Ty.cons (Ty.int IntKind.i64) (Ty.cons (Ty.int IntKind.i64) (Ty.cons (Ty.int IntKind.i64) Ty.unit)))) (Prod.fst (Prod.snd (Prod.snd (Prod.snd (Prod.snd (Prod.snd (Prod.snd (Prod.snd x0)))))))) (Prod.fst (Prod.snd (Prod.snd (Prod.snd (Prod.snd (Prod.snd (Prod.snd (Prod.snd x1))))))))) = true then Bool.false else Bool.false) else Bool.false) else Bool.false))
theorem p7_0 (x0 : TyA0) (x1 : TyA0) : runF tab ext7 false 91 [] 2000 [] oks7 kds7 tys7 Try.f7.results [true, true, true, true, true, true, true, true, true, true, true] [.code b7] (entE 0 0 sig7 (x0, x1, ())) (entL sig7 (x0, x1, ())) = some ([Dyn.mk Ty.bool (g37_0 (Prod.fst (Prod.snd (Prod.snd (Prod.snd (Prod.snd (Prod.snd (Prod.snd (Prod.snd (Prod.snd (Prod.snd (Prod.snd (Prod.snd x0)))))))))))) (Prod.fst (Prod.snd (Prod.snd (Prod.snd (Prod.snd (Prod.snd (Prod.snd (Prod.snd (Prod.snd (Prod.snd (Prod.snd (Prod.snd x1)))))))))))))], [], [True, g30_0 (Prod.fst x0) (Prod.fst x1) = Bool.true, eqD (Ty.cons (Ty.int IntKind.i64) (Ty.cons (Ty.int IntKind.i64) (Ty.cons (Ty.int IntKind.i64) (Ty.cons (Ty.int IntKind.i64) Ty.unit)))) (Prod.fst (Prod.snd x0)) (Prod.fst (Prod.snd x1)) = Bool.true, True, g31_0 (Prod.fst (Prod.snd (Prod.snd x0))) (Prod.fst (Prod.snd (Prod.snd x1))) = Bool.true, True, g32_0 (Prod.fst (Prod.snd (Prod.snd (Prod.snd x0)))) (Prod.fst (Prod.snd (Prod.snd (Prod.snd x1)))) = Bool.true, eqD (Ty.cons (Ty.int IntKind.i64) (Ty.cons (Ty.int IntKind.i64) (Ty.cons (Ty.int IntKind.i64) Ty.unit))) (Prod.fst (Prod.snd (Prod.snd (Prod.snd (Prod.snd (Prod.snd x0)))))) (Prod.fst (Prod.snd (Prod.snd (Prod.snd (Prod.snd (Prod.snd x1)))))) = Bool.true, True, g33_0 (Prod.fst (Prod.snd (Prod.snd (Prod.snd (Prod.snd (Prod.snd (Prod.snd x0))))))) (Prod.fst (Prod.snd (Prod.snd (Prod.snd (Prod.snd (Prod.snd (Prod.snd x1))))))) = Bool.true, eqD (Ty.cons (Ty.int IntKind.i64) (Ty.cons (Ty.int IntKind.i64) (Ty.cons (Ty.int IntKind.i64) (Ty.cons (Ty.int IntKind.i64) Ty.unit)))) (Prod.fst (Prod.snd (Prod.snd (Prod.snd (Prod.snd (Prod.snd (Prod.snd (Prod.snd x0)))))))) (Prod.fst (Prod.snd (Prod.snd (Prod.snd (Prod.snd (Prod.snd (Prod.snd (Prod.snd x1)))))))) = Bool.true, True, eqD (Ty.cons (Ty.int IntKind.i64) (Ty.cons (Ty.int IntKind.i64) (Ty.cons (Ty.int IntKind.i64) Ty.unit))) (Prod.fst (Prod.snd (Prod.snd (Prod.snd (Prod.snd x0))))) (Prod.fst (Prod.snd (Prod.snd (Prod.snd (Prod.snd x1))))) = Bool.true, g34_0 (Prod.fst (Prod.snd (Prod.snd (Prod.snd (Prod.snd (Prod.snd (Prod.snd (Prod.snd (Prod.snd x0))))))))) (Prod.fst (Prod.snd (Prod.snd (Prod.snd (Prod.snd (Prod.snd (Prod.snd (Prod.snd (Prod.snd x1))))))))) = Bool.true, True, g35_0 (Prod.fst (Prod.snd (Prod.snd (Prod.snd (Prod.snd (Prod.snd (Prod.snd (Prod.snd (Prod.snd (Prod.snd x0)))))))))) (Prod.fst (Prod.snd (Prod.snd (Prod.snd (Prod.snd (Prod.snd (Prod.snd (Prod.snd (Prod.snd (Prod.snd x1)))))))))) = Bool.true, True, g36_0 (Prod.fst (Prod.snd (Prod.snd (Prod.snd (Prod.snd (Prod.snd (Prod.snd (Prod.snd (Prod.snd (Prod.snd (Prod.snd x0))))))))))) (Prod.fst (Prod.snd (Prod.snd (Prod.snd (Prod.snd (Prod.snd (Prod.snd (Prod.snd (Prod.snd (Prod.snd (Prod.snd x1))))))))))) = Bool.true, True]) := by kernel_rfl
theorem p7_1 (x0 : TyA0) (x1 : TyA0) : runF tab ext7 false 91 [] 2000 [] oks7 kds7 tys7 Try.f7.results [true, true, true, true, true, true, true, true, true, true, false] [.code b7] (entE 0 0 sig7 (x0, x1, ())) (entL sig7 (x0, x1, ())) = some ([Dyn.mk Ty.bool Bool.false], [], [True, g30_0 (Prod.fst x0) (Prod.fst x1) = Bool.true, eqD (Ty.cons (Ty.int IntKind.i64) (Ty.cons (Ty.int IntKind.i64) (Ty.cons (Ty.int IntKind.i64) (Ty.cons (Ty.int IntKind.i64) Ty.unit)))) (Prod.fst (Prod.snd x0)) (Prod.fst (Prod.snd x1)) = Bool.true, True, g31_0 (Prod.fst (Prod.snd (Prod.snd x0))) (Prod.fst (Prod.snd (Prod.snd x1))) = Bool.true, True, g32_0 (Prod.fst (Prod.snd (Prod.snd (Prod.snd x0)))) (Prod.fst (Prod.snd (Prod.snd (Prod.snd x1)))) = Bool.true, eqD (Ty.cons (Ty.int IntKind.i64) (Ty.cons (Ty.int IntKind.i64) (Ty.cons (Ty.int IntKind.i64) Ty.unit))) (Prod.fst (Prod.snd (Prod.snd (Prod.snd (Prod.snd (Prod.snd x0)))))) (Prod.fst (Prod.snd (Prod.snd (Prod.snd (Prod.snd (Prod.snd x1)))))) = Bool.true, True, g33_0 (Prod.fst (Prod.snd (Prod.snd (Prod.snd (Prod.snd (Prod.snd (Prod.snd x0))))))) (Prod.fst (Prod.snd (Prod.snd (Prod.snd (Prod.snd (Prod.snd (Prod.snd x1))))))) = Bool.true, eqD (Ty.cons (Ty.int IntKind.i64) (Ty.cons (Ty.int IntKind.i64) (Ty.cons (Ty.int IntKind.i64) (Ty.cons (Ty.int IntKind.i64) Ty.unit)))) (Prod.fst (Prod.snd (Prod.snd (Prod.snd (Prod.snd (Prod.snd (Prod.snd (Prod.snd x0)))))))) (Prod.fst (Prod.snd (Prod.snd (Prod.snd (Prod.snd (Prod.snd (Prod.snd (Prod.snd x1)))))))) = Bool.true, True, eqD (Ty.cons (Ty.int IntKind.i64) (Ty.cons (Ty.int IntKind.i64) (Ty.cons (Ty.int IntKind.i64) Ty.unit))) (Prod.fst (Prod.snd (Prod.snd (Prod.snd (Prod.snd x0))))) (Prod.fst (Prod.snd (Prod.snd (Prod.snd (Prod.snd x1))))) = Bool.true, g34_0 (Prod.fst (Prod.snd (Prod.snd (Prod.snd (Prod.snd (Prod.snd (Prod.snd (Prod.snd (Prod.snd x0))))))))) (Prod.fst (Prod.snd (Prod.snd (Prod.snd (Prod.snd (Prod.snd (Prod.snd (Prod.snd (Prod.snd x1))))))))) = Bool.true, True, g35_0 (Prod.fst (Prod.snd (Prod.snd (Prod.snd (Prod.snd (Prod.snd (Prod.snd (Prod.snd (Prod.snd (Prod.snd x0)))))))))) (Prod.fst (Prod.snd (Prod.snd (Prod.snd (Prod.snd (Prod.snd (Prod.snd (Prod.snd (Prod.snd (Prod.snd x1)))))))))) = Bool.true, True, g36_0 (Prod.fst (Prod.snd (Prod.snd (Prod.snd (Prod.snd (Prod.snd (Prod.snd (Prod.snd (Prod.snd (Prod.snd (Prod.snd x0))))))))))) (Prod.fst (Prod.snd (Prod.snd (Prod.snd (Prod.snd (Prod.snd (Prod.snd (Prod.snd (Prod.snd (Prod.snd (Prod.snd x1))))))))))) = Bool.false]) := by kernel_rfl
theorem p7_2 (x0 : TyA0) (x1 : TyA0) : runF tab ext7 false 91 [] 2000 [] oks7 kds7 tys7 Try.f7.results [true, true, true, true, true, true, true, true, true, false, false] [.code b7] (entE 0 0 sig7 (x0, x1, ())) (entL sig7 (x0, x1, ())) = some ([Dyn.mk Ty.bool Bool.false], [], [True, g30_0 (Prod.fst x0) (Prod.fst x1) = Bool.true, eqD (Ty.cons (Ty.int IntKind.i64) (Ty.cons (Ty.int IntKind.i64) (Ty.cons (Ty.int IntKind.i64) (Ty.cons (Ty.int IntKind.i64) Ty.unit)))) (Prod.fst (Prod.snd x0)) (Prod.fst (Prod.snd x1)) = Bool.true, True, g31_0 (Prod.fst (Prod.snd (Prod.snd x0))) (Prod.fst (Prod.snd (Prod.snd x1))) = Bool.true, True, g32_0 (Prod.fst (Prod.snd (Prod.snd (Prod.snd x0)))) (Prod.fst (Prod.snd (Prod.snd (Prod.snd x1)))) = Bool.true, eqD (Ty.cons (Ty.int IntKind.i64) (Ty.cons (Ty.int IntKind.i64) (Ty.cons (Ty.int IntKind.i64) Ty.unit))) (Prod.fst (Prod.snd (Prod.snd (Prod.snd (Prod.snd (Prod.snd x0)))))) (Prod.fst (Prod.snd (Prod.snd (Prod.snd (Prod.snd (Prod.snd x1)))))) = Bool.true, True, g33_0 (Prod.fst (Prod.snd (Prod.snd (Prod.snd (Prod.snd (Prod.snd (Prod.snd x0))))))) (Prod.fst (Prod.snd (Prod.snd (Prod.snd (Prod.snd (Prod.snd (Prod.snd x1))))))) = Bool.true, eqD (Ty.cons (Ty.int IntKind.i64) (Ty.cons (Ty.int IntKind.i64) (Ty.cons (Ty.int IntKind.i64) (Ty.cons (Ty.int IntKind.i64) Ty.unit)))) (Prod.fst (Prod.snd (Prod.snd (Prod.snd (Prod.snd (Prod.snd (Prod.snd (Prod.snd x0)))))))) (Prod.fst (Prod.snd (Prod.snd (Prod.snd (Prod.snd (Prod.snd (Prod.snd (Prod.snd x1)))))))) = Bool.true, True, eqD (Ty.cons (Ty.int IntKind.i64) (Ty.cons (Ty.int IntKind.i64) (Ty.cons (Ty.int IntKind.i64) Ty.unit))) (Prod.fst (Prod.snd (Prod.snd (Prod.snd (Prod.snd x0))))) (Prod.fst (Prod.snd (Prod.snd (Prod.snd (Prod.snd x1))))) = Bool.true, g34_0 (Prod.fst (Prod.snd (Prod.snd (Prod.snd (Prod.snd (Prod.snd (Prod.snd (Prod.snd (Prod.snd x0))))))))) (Prod.fst (Prod.snd (Prod.snd (Prod.snd (Prod.snd (Prod.snd (Prod.snd (Prod.snd (Prod.snd x1))))))))) = Bool.true, True, g35_0 (Prod.fst (Prod.snd (Prod.snd (Prod.snd (Prod.snd (Prod.snd (Prod.snd (Prod.snd (Prod.snd (Prod.snd x0)))))))))) (Prod.fst (Prod.snd (Prod.snd (Prod.snd (Prod.snd (Prod.snd (Prod.snd (Prod.snd (Prod.snd (Prod.snd x1)))))))))) = Bool.false, Bool.false = Bool.false]) := by kernel_rfl
theorem p7_3 (x0 : TyA0) (x1 : TyA0) : runF tab ext7 false 91 [] 2000 [] oks7 kds7 tys7 Try.f7.results [true, true, true, true, true, true, true, true, false, false, false] [.code b7] (entE 0 0 sig7 (x0, x1, ())) (entL sig7 (x0, x1, ())) = some ([Dyn.mk Ty.bool Bool.false], [], [True, g30_0 (Prod.fst x0) (Prod.fst x1) = Bool.true, eqD (Ty.cons (Ty.int IntKind.i64) (Ty.cons (Ty.int IntKind.i64) (Ty.cons (Ty.int IntKind.i64) (Ty.cons (Ty.int IntKind.i64) Ty.unit)))) (Prod.fst (Prod.snd x0)) (Prod.fst (Prod.snd x1)) = Bool.true, True, g31_0 (Prod.fst (Prod.snd (Prod.snd x0))) (Prod.fst (Prod.snd (Prod.snd x1))) = Bool.true, True, g32_0 (Prod.fst (Prod.snd (Prod.snd (Prod.snd x0)))) (Prod.fst (Prod.snd (Prod.snd (Prod.snd x1)))) = Bool.true, eqD (Ty.cons (Ty.int IntKind.i64) (Ty.cons (Ty.int IntKind.i64) (Ty.cons (Ty.int IntKind.i64) Ty.unit))) (Prod.fst (Prod.snd (Prod.snd (Prod.snd (Prod.snd (Prod.snd x0)))))) (Prod.fst (Prod.snd (Prod.snd (Prod.snd (Prod.snd (Prod.snd x1)))))) = Bool.true, True, g33_0 (Prod.fst (Prod.snd (Prod.snd (Prod.snd (Prod.snd (Prod.snd (Prod.snd x0))))))) (Prod.fst (Prod.snd (Prod.snd (Prod.snd (Prod.snd (Prod.snd (Prod.snd x1))))))) = Bool.true, eqD (Ty.cons (Ty.int IntKind.i64) (Ty.cons (Ty.int IntKind.i64) (Ty.cons (Ty.int IntKind.i64) (Ty.cons (Ty.int IntKind.i64) Ty.unit)))) (Prod.fst (Prod.snd (Prod.snd (Prod.snd (Prod.snd (Prod.snd (Prod.snd (Prod.snd x0)))))))) (Prod.fst (Prod.snd (Prod.snd (Prod.snd (Prod.snd (Prod.snd (Prod.snd (Prod.snd x1)))))))) = Bool.true, True, eqD (Ty.cons (Ty.int IntKind.i64) (Ty.cons (Ty.int IntKind.i64) (Ty.cons (Ty.int IntKind.i64) Ty.unit))) (Prod.fst (Prod.snd (Prod.snd (Prod.snd (Prod.snd x0))))) (Prod.fst (Prod.snd (Prod.snd (Prod.snd (Prod.snd x1))))) = Bool.true, g34_0 (Prod.fst (Prod.snd (Prod.snd (Prod.snd (Prod.snd (Prod.snd (Prod.snd (Prod.snd (Prod.snd x0))))))))) (Prod.fst (Prod.snd (Prod.snd (Prod.snd (Prod.snd (Prod.snd (Prod.snd (Prod.snd (Prod.snd x1))))))))) = Bool.false, Bool.false = Bool.false, Bool.false = Bool.false]) := by kernel_rfl
theorem p7_4 (x0 : TyA0) (x1 : TyA0) : runF tab ext7 false 91 [] 2000 [] oks7 kds7 tys7 Try.f7.results [true, true, true, true, true, true, true, false, false, false, false] [.code b7] (entE 0 0 sig7 (x0, x1, ())) (entL sig7 (x0, x1, ())) = some ([Dyn.mk Ty.bool Bool.false], [], [True, g30_0 (Prod.fst x0) (Prod.fst x1) = Bool.true, eqD (Ty.cons (Ty.int IntKind.i64) (Ty.cons (Ty.int IntKind.i64) (Ty.cons (Ty.int IntKind.i64) (Ty.cons (Ty.int IntKind.i64) Ty.unit)))) (Prod.fst (Prod.snd x0)) (Prod.fst (Prod.snd x1)) = Bool.true, True, g31_0 (Prod.fst (Prod.snd (Prod.snd x0))) (Prod.fst (Prod.snd (Prod.snd x1))) = Bool.true, True, g32_0 (Prod.fst (Prod.snd (Prod.snd (Prod.snd x0)))) (Prod.fst (Prod.snd (Prod.snd (Prod.snd x1)))) = Bool.true, eqD (Ty.cons (Ty.int IntKind.i64) (Ty.cons (Ty.int IntKind.i64) (Ty.cons (Ty.int IntKind.i64) Ty.unit))) (Prod.fst (Prod.snd (Prod.snd (Prod.snd (Prod.snd (Prod.snd x0)))))) (Prod.fst (Prod.snd (Prod.snd (Prod.snd (Prod.snd (Prod.snd x1)))))) = Bool.true, True, g33_0 (Prod.fst (Prod.snd (Prod.snd (Prod.snd (Prod.snd (Prod.snd (Prod.snd x0))))))) (Prod.fst (Prod.snd (Prod.snd (Prod.snd (Prod.snd (Prod.snd (Prod.snd x1))))))) = Bool.true, eqD (Ty.cons (Ty.int IntKind.i64) (Ty.cons (Ty.int IntKind.i64) (Ty.cons (Ty.int IntKind.i64) (Ty.cons (Ty.int IntKind.i64) Ty.unit)))) (Prod.fst (Prod.snd (Prod.snd (Prod.snd (Prod.snd (Prod.snd (Prod.snd (Prod.snd x0)))))))) (Prod.fst (Prod.snd (Prod.snd (Prod.snd (Prod.snd (Prod.snd (Prod.snd (Prod.snd x1)))))))) = Bool.true, True, eqD (Ty.cons (Ty.int IntKind.i64) (Ty.cons (Ty.int IntKind.i64) (Ty.cons (Ty.int IntKind.i64) Ty.unit))) (Prod.fst (Prod.snd (Prod.snd (Prod.snd (Prod.snd x0))))) (Prod.fst (Prod.snd (Prod.snd (Prod.snd (Prod.snd x1))))) = Bool.false, Bool.false = Bool.false, Bool.false = Bool.false, Bool.false = Bool.false]) := by kernel_rfl
theorem p7_5 (x0 : TyA0) (x1 : TyA0) : runF tab ext7 false 91 [] 2000 [] oks7 kds7 tys7 Try.f7.results [true, true, true, true, true, true, false, true, false, false, false] [.code b7] (entE 0 0 sig7 (x0, x1, ())) (entL sig7 (x0, x1, ())) = some ([Dyn.mk Ty.bool Bool.false], [], [True, g30_0 (Prod.fst x0) (Prod.fst x1) = Bool.true, eqD (Ty.cons (Ty.int IntKind.i64) (Ty.cons (Ty.int IntKind.i64) (Ty.cons (Ty.int IntKind.i64) (Ty.cons (Ty.int IntKind.i64) Ty.unit)))) (Prod.fst (Prod.snd x0)) (Prod.fst (Prod.snd x1)) = Bool.true, True, g31_0 (Prod.fst (Prod.snd (Prod.snd x0))) (Prod.fst (Prod.snd (Prod.snd x1))) = Bool.true, True, g32_0 (Prod.fst (Prod.snd (Prod.snd (Prod.snd x0)))) (Prod.fst (Prod.snd (Prod.snd (Prod.snd x1)))) = Bool.true, eqD (Ty.cons (Ty.int IntKind.i64) (Ty.cons (Ty.int IntKind.i64) (Ty.cons (Ty.int IntKind.i64) Ty.unit))) (Prod.fst (Prod.snd (Prod.snd (Prod.snd (Prod.snd (Prod.snd x0)))))) (Prod.fst (Prod.snd (Prod.snd (Prod.snd (Prod.snd (Prod.snd x1)))))) = Bool.true, True, g33_0 (Prod.fst (Prod.snd (Prod.snd (Prod.snd (Prod.snd (Prod.snd (Prod.snd x0))))))) (Prod.fst (Prod.snd (Prod.snd (Prod.snd (Prod.snd (Prod.snd (Prod.snd x1))))))) = Bool.true, eqD (Ty.cons (Ty.int IntKind.i64) (Ty.cons (Ty.int IntKind.i64) (Ty.cons (Ty.int IntKind.i64) (Ty.cons (Ty.int IntKind.i64) Ty.unit)))) (Prod.fst (Prod.snd (Prod.snd (Prod.snd (Prod.snd (Prod.snd (Prod.snd (Prod.snd x0)))))))) (Prod.fst (Prod.snd (Prod.snd (Prod.snd (Prod.snd (Prod.snd (Prod.snd (Prod.snd x1)))))))) = Bool.false, eqD (Ty.cons (Ty.int IntKind.i64) (Ty.cons (Ty.int IntKind.i64) (Ty.cons (Ty.int IntKind.i64) Ty.unit))) (Prod.fst (Prod.snd (Prod.snd (Prod.snd (Prod.snd x0))))) (Prod.fst (Prod.snd (Prod.snd (Prod.snd (Prod.snd x1))))) = Bool.true, Bool.false = Bool.false, Bool.false = Bool.false, Bool.false = Bool.false]) := by kernel_rfl
theorem p7_6 (x0 : TyA0) (x1 : TyA0) : runF tab ext7 false 91 [] 2000 [] oks7 kds7 tys7 Try.f7.results [true, true, true, true, true, true, false, false, false, false, false] [.code b7] (entE 0 0 sig7 (x0, x1, ())) (entL sig7 (x0, x1, ())) = some ([Dyn.mk Ty.bool Bool.false], [], [True, g30_0 (Prod.fst x0) (Prod.fst x1) = Bool.true, eqD (Ty.cons (Ty.int IntKind.i64) (Ty.cons (Ty.int IntKind.i64) (Ty.cons (Ty.int IntKind.i64) (Ty.cons (Ty.int IntKind.i64) Ty.unit)))) (Prod.fst (Prod.snd x0)) (Prod.fst (Prod.snd x1)) = Bool.true, True, g31_0 (Prod.fst (Prod.snd (Prod.snd x0))) (Prod.fst (Prod.snd (Prod.snd x1))) = Bool.true, True, g32_0 (Prod.fst (Prod.snd (Prod.snd (Prod.snd x0)))) (Prod.fst (Prod.snd (Prod.snd (Prod.snd x1)))) = Bool.true, eqD (Ty.cons (Ty.int IntKind.i64) (Ty.cons (Ty.int IntKind.i64) (Ty.cons (Ty.int IntKind.i64) Ty.unit))) (Prod.fst (Prod.snd (Prod.snd (Prod.snd (Prod.snd (Prod.snd x0)))))) (Prod.fst (Prod.snd (Prod.snd (Prod.snd (Prod.snd (Prod.snd x1)))))) = Bool.true, True, g33_0 (Prod.fst (Prod.snd (Prod.snd (Prod.snd (Prod.snd (Prod.snd (Prod.snd x0))))))) (Prod.fst (Prod.snd (Prod.snd (Prod.snd (Prod.snd (Prod.snd (Prod.snd x1))))))) = Bool.true, eqD (Ty.cons (Ty.int IntKind.i64) (Ty.cons (Ty.int IntKind.i64) (Ty.cons (Ty.int IntKind.i64) (Ty.cons (Ty.int IntKind.i64) Ty.unit)))) (Prod.fst (Prod.snd (Prod.snd (Prod.snd (Prod.snd (Prod.snd (Prod.snd (Prod.snd x0)))))))) (Prod.fst (Prod.snd (Prod.snd (Prod.snd (Prod.snd (Prod.snd (Prod.snd (Prod.snd x1)))))))) = Bool.false, eqD (Ty.cons (Ty.int IntKind.i64) (Ty.cons (Ty.int IntKind.i64) (Ty.cons (Ty.int IntKind.i64) Ty.unit))) (Prod.fst (Prod.snd (Prod.snd (Prod.snd (Prod.snd x0))))) (Prod.fst (Prod.snd (Prod.snd (Prod.snd (Prod.snd x1))))) = Bool.false, Bool.false = Bool.false, Bool.false = Bool.false, Bool.false = Bool.false]) := by kernel_rfl
theorem p7_7 (x0 : TyA0) (x1 : TyA0) : runF tab ext7 false 91 [] 2000 [] oks7 kds7 tys7 Try.f7.results [true, true, true, true, true, false, false, true, false, false, false] [.code b7] (entE 0 0 sig7 (x0, x1, ())) (entL sig7 (x0, x1, ())) = some ([Dyn.mk Ty.bool Bool.false], [], [True, g30_0 (Prod.fst x0) (Prod.fst x1) = Bool.true, eqD (Ty.cons (Ty.int IntKind.i64) (Ty.cons (Ty.int IntKind.i64) (Ty.cons (Ty.int IntKind.i64) (Ty.cons (Ty.int IntKind.i64) Ty.unit)))) (Prod.fst (Prod.snd x0)) (Prod.fst (Prod.snd x1)) = Bool.true, True, g31_0 (Prod.fst (Prod.snd (Prod.snd x0))) (Prod.fst (Prod.snd (Prod.snd x1))) = Bool.true, True, g32_0 (Prod.fst (Prod.snd (Prod.snd (Prod.snd x0)))) (Prod.fst (Prod.snd (Prod.snd (Prod.snd x1)))) = Bool.true, eqD (Ty.cons (Ty.int IntKind.i64) (Ty.cons (Ty.int IntKind.i64) (Ty.cons (Ty.int IntKind.i64) Ty.unit))) (Prod.fst (Prod.snd (Prod.snd (Prod.snd (Prod.snd (Prod.snd x0)))))) (Prod.fst (Prod.snd (Prod.snd (Prod.snd (Prod.snd (Prod.snd x1)))))) = Bool.true, True, g33_0 (Prod.fst (Prod.snd (Prod.snd (Prod.snd (Prod.snd (Prod.snd (Prod.snd x0))))))) (Prod.fst (Prod.snd (Prod.snd (Prod.snd (Prod.snd (Prod.snd (Prod.snd x1))))))) = Bool.false, Bool.false = Bool.false, eqD (Ty.cons (Ty.int IntKind.i64) (Ty.cons (Ty.int IntKind.i64) (Ty.cons (Ty.int IntKind.i64) Ty.unit))) (Prod.fst (Prod.snd (Prod.snd (Prod.snd (Prod.snd x0))))) (Prod.fst (Prod.snd (Prod.snd (Prod.snd (Prod.snd x1))))) = Bool.true, Bool.false = Bool.false, Bool.false = Bool.false, Bool.false = Bool.false]) := by kernel_rfl
theorem p7_8 (x0 : TyA0) (x1 : TyA0) : runF tab ext7 false 91 [] 2000 [] oks7 kds7 tys7 Try.f7.results [true, true, true, true, true, false, false, false, false, false, false] [.code b7] (entE 0 0 sig7 (x0, x1, ())) (entL sig7 (x0, x1, ())) = some ([Dyn.mk Ty.bool Bool.false], [], [True, g30_0 (Prod.fst x0) (Prod.fst x1) = Bool.true, eqD (Ty.cons (Ty.int IntKind.i64) (Ty.cons (Ty.int IntKind.i64) (Ty.cons (Ty.int IntKind.i64) (Ty.cons (Ty.int IntKind.i64) Ty.unit)))) (Prod.fst (Prod.snd x0)) (Prod.fst (Prod.snd x1)) = Bool.true, True, g31_0 (Prod.fst (Prod.snd (Prod.snd x0))) (Prod.fst (Prod.snd (Prod.snd x1))) = Bool.true, True, g32_0 (Prod.fst (Prod.snd (Prod.snd (Prod.snd x0)))) (Prod.fst (Prod.snd (Prod.snd (Prod.snd x1)))) = Bool.true, eqD (Ty.cons (Ty.int IntKind.i64) (Ty.cons (Ty.int IntKind.i64) (Ty.cons (Ty.int IntKind.i64) Ty.unit))) (Prod.fst (Prod.snd (Prod.snd (Prod.snd (Prod.snd (Prod.snd x0)))))) (Prod.fst (Prod.snd (Prod.snd (Prod.snd (Prod.snd (Prod.snd x1)))))) = Bool.true, True, g33_0 (Prod.fst (Prod.snd (Prod.snd (Prod.snd (Prod.snd (Prod.snd (Prod.snd x0))))))) (Prod.fst (Prod.snd (Prod.snd (Prod.snd (Prod.snd (Prod.snd (Prod.snd x1))))))) = Bool.false, Bool.false = Bool.false, eqD (Ty.cons (Ty.int IntKind.i64) (Ty.cons (Ty.int IntKind.i64) (Ty.cons (Ty.int IntKind.i64) Ty.unit))) (Prod.fst (Prod.snd (Prod.snd (Prod.snd (Prod.snd x0))))) (Prod.fst (Prod.snd (Prod.snd (Prod.snd (Prod.snd x1))))) = Bool.false, Bool.false = Bool.false, Bool.false = Bool.false, Bool.false = Bool.false]) := by kernel_rfl
theorem p7_9 (x0 : TyA0) (x1 : TyA0) : runF tab ext7 false 91 [] 2000 [] oks7 kds7 tys7 Try.f7.results [true, true, true, true, false, false, false, true, false, false, false] [.code b7] (entE 0 0 sig7 (x0, x1, ())) (entL sig7 (x0, x1, ())) = some ([Dyn.mk Ty.bool Bool.false], [], [True, g30_0 (Prod.fst x0) (Prod.fst x1) = Bool.true, eqD (Ty.cons (Ty.int IntKind.i64) (Ty.cons (Ty.int IntKind.i64) (Ty.cons (Ty.int IntKind.i64) (Ty.cons (Ty.int IntKind.i64) Ty.unit)))) (Prod.fst (Prod.snd x0)) (Prod.fst (Prod.snd x1)) = Bool.true, True, g31_0 (Prod.fst (Prod.snd (Prod.snd x0))) (Prod.fst (Prod.snd (Prod.snd x1))) = Bool.true, True, g32_0 (Prod.fst (Prod.snd (Prod.snd (Prod.snd x0)))) (Prod.fst (Prod.snd (Prod.snd (Prod.snd x1)))) = Bool.true, eqD (Ty.cons (Ty.int IntKind.i64) (Ty.cons (Ty.int IntKind.i64) (Ty.cons (Ty.int IntKind.i64) Ty.unit))) (Prod.fst (Prod.snd (Prod.snd (Prod.snd (Prod.snd (Prod.snd x0)))))) (Prod.fst (Prod.snd (Prod.snd (Prod.snd (Prod.snd (Prod.snd x1)))))) = Bool.false, Bool.false = Bool.false, Bool.false = Bool.false, eqD (Ty.cons (Ty.int IntKind.i64) (Ty.cons (Ty.int IntKind.i64) (Ty.cons (Ty.int IntKind.i64) Ty.unit))) (Prod.fst (Prod.snd (Prod.snd (Prod.snd (Prod.snd x0))))) (Prod.fst (Prod.snd (Prod.snd (Prod.snd (Prod.snd x1))))) = Bool.true, Bool.false = Bool.false, Bool.false = Bool.false, Bool.false = Bool.false]) := by kernel_rfl
theorem p7_10 (x0 : TyA0) (x1 : TyA0) : runF tab ext7 false 91 [] 2000 [] oks7 kds7 tys7 Try.f7.results [true, true, true, true, false, false, false, false, false, false, false] [.code b7] (entE 0 0 sig7 (x0, x1, ())) (entL sig7 (x0, x1, ())) = some ([Dyn.mk Ty.bool Bool.false], [], [True, g30_0 (Prod.fst x0) (Prod.fst x1) = Bool.true, eqD (Ty.cons (Ty.int IntKind.i64) (Ty.cons (Ty.int IntKind.i64) (Ty.cons (Ty.int IntKind.i64) (Ty.cons (Ty.int IntKind.i64) Ty.unit)))) (Prod.fst (Prod.snd x0)) (Prod.fst (Prod.snd x1)) = Bool.true, True, g31_0 (Prod.fst (Prod.snd (Prod.snd x0))) (Prod.fst (Prod.snd (Prod.snd x1))) = Bool.true, True, g32_0 (Prod.fst (Prod.snd (Prod.snd (Prod.snd x0)))) (Prod.fst (Prod.snd (Prod.snd (Prod.snd x1)))) = Bool.true, eqD (Ty.cons (Ty.int IntKind.i64) (Ty.cons (Ty.int IntKind.i64) (Ty.cons (Ty.int IntKind.i64) Ty.unit))) (Prod.fst (Prod.snd (Prod.snd (Prod.snd (Prod.snd (Prod.snd x0)))))) (Prod.fst (Prod.snd (Prod.snd (Prod.snd (Prod.snd (Prod.snd x1)))))) = Bool.false, Bool.false = Bool.false, Bool.false = Bool.false, eqD (Ty.cons (Ty.int IntKind.i64) (Ty.cons (Ty.int IntKind.i64) (Ty.cons (Ty.int IntKind.i64) Ty.unit))) (Prod.fst (Prod.snd (Prod.snd (Prod.snd (Prod.snd x0))))) (Prod.fst (Prod.snd (Prod.snd (Prod.snd (Prod.snd x1))))) = Bool.false, Bool.false = Bool.false, Bool.false = Bool.false, Bool.false = Bool.false]) := by kernel_rfl
theorem p7_11 (x0 : TyA0) (x1 : TyA0) : runF tab ext7 false 91 [] 2000 [] oks7 kds7 tys7 Try.f7.results [true, true, true, false, true, true, true, false, false, false, false] [.code b7] (entE 0 0 sig7 (x0, x1, ())) (entL sig7 (x0, x1, ())) = some ([Dyn.mk Ty.bool Bool.false], [], [True, g30_0 (Prod.fst x0) (Prod.fst x1) = Bool.true, eqD (Ty.cons (Ty.int IntKind.i64) (Ty.cons (Ty.int IntKind.i64) (Ty.cons (Ty.int IntKind.i64) (Ty.cons (Ty.int IntKind.i64) Ty.unit)))) (Prod.fst (Prod.snd x0)) (Prod.fst (Prod.snd x1)) = Bool.true, True, g31_0 (Prod.fst (Prod.snd (Prod.snd x0))) (Prod.fst (Prod.snd (Prod.snd x1))) = Bool.true, True, g32_0 (Prod.fst (Prod.snd (Prod.snd (Prod.snd x0)))) (Prod.fst (Prod.snd (Prod.snd (Prod.snd x1)))) = Bool.false, eqD (Ty.cons (Ty.int IntKind.i64) (Ty.cons (Ty.int IntKind.i64) (Ty.cons (Ty.int IntKind.i64) Ty.unit))) (Prod.fst (Prod.snd (Prod.snd (Prod.snd (Prod.snd (Prod.snd x0)))))) (Prod.fst (Prod.snd (Prod.snd (Prod.snd (Prod.snd (Prod.snd x1)))))) = Bool.true, True, g33_0 (Prod.fst (Prod.snd (Prod.snd (Prod.snd (Prod.snd (Prod.snd (Prod.snd x0))))))) (Prod.fst (Prod.snd (Prod.snd (Prod.snd (Prod.snd (Prod.snd (Prod.snd x1))))))) = Bool.true, eqD (Ty.cons (Ty.int IntKind.i64) (Ty.cons (Ty.int IntKind.i64) (Ty.cons (Ty.int IntKind.i64) (Ty.cons (Ty.int IntKind.i64) Ty.unit)))) (Prod.fst (Prod.snd (Prod.snd (Prod.snd (Prod.snd (Prod.snd (Prod.snd (Prod.snd x0)))))))) (Prod.fst (Prod.snd (Prod.snd (Prod.snd (Prod.snd (Prod.snd (Prod.snd (Prod.snd x1)))))))) = Bool.true, True, Bool.false = Bool.false, Bool.false = Bool.false, Bool.false = Bool.false, Bool.false = Bool.false]) := by kernel_rfl
theorem p7_12 (x0 : TyA0) (x1 : TyA0) : runF tab ext7 false 91 [] 2000 [] oks7 kds7 tys7 Try.f7.results [true, true, true, false, true, true, false, false, false, false, false] [.code b7] (entE 0 0 sig7 (x0, x1, ())) (entL sig7 (x0, x1, ())) = some ([Dyn.mk Ty.bool Bool.false], [], [True, g30_0 (Prod.fst x0) (Prod.fst x1) = Bool.true, eqD (Ty.cons (Ty.int IntKind.i64) (Ty.cons (Ty.int IntKind.i64) (Ty.cons (Ty.int IntKind.i64) (Ty.cons (Ty.int IntKind.i64) Ty.unit)))) (Prod.fst (Prod.snd x0)) (Prod.fst (Prod.snd x1)) = Bool.true, True, g31_0 (Prod.fst (Prod.snd (Prod.snd x0))) (Prod.fst (Prod.snd (Prod.snd x1))) = Bool.true, True, g32_0 (Prod.fst (Prod.snd (Prod.snd (Prod.snd x0)))) (Prod.fst (Prod.snd (Prod.snd (Prod.snd x1)))) = Bool.false, eqD (Ty.cons (Ty.int IntKind.i64) (Ty.cons (Ty.int IntKind.i64) (Ty.cons (Ty.int IntKind.i64) Ty.unit))) (Prod.fst (Prod.snd (Prod.snd (Prod.snd (Prod.snd (Prod.snd x0)))))) (Prod.fst (Prod.snd (Prod.snd (Prod.snd (Prod.snd (Prod.snd x1)))))) = Bool.true, True, g33_0 (Prod.fst (Prod.snd (Prod.snd (Prod.snd (Prod.snd (Prod.snd (Prod.snd x0))))))) (Prod.fst (Prod.snd (Prod.snd (Prod.snd (Prod.snd (Prod.snd (Prod.snd x1))))))) = Bool.true, eqD (Ty.cons (Ty.int IntKind.i64) (Ty.cons (Ty.int IntKind.i64) (Ty.cons (Ty.int IntKind.i64) (Ty.cons (Ty.int IntKind.i64) Ty.unit)))) (Prod.fst (Prod.snd (Prod.snd (Prod.snd (Prod.snd (Prod.snd (Prod.snd (Prod.snd x0)))))))) (Prod.fst (Prod.snd (Prod.snd (Prod.snd (Prod.snd (Prod.snd (Prod.snd (Prod.snd x1)))))))) = Bool.false, Bool.false = Bool.false, Bool.false = Bool.false, Bool.false = Bool.false, Bool.false = Bool.false]) := by kernel_rfl
theorem p7_13 (x0 : TyA0) (x1 : TyA0) : runF tab ext7 false 91 [] 2000 [] oks7 kds7 tys7 Try.f7.results [true, true, true, false, true, false, false, false, false, false, false] [.code b7] (entE 0 0 sig7 (x0, x1, ())) (entL sig7 (x0, x1, ())) = some ([Dyn.mk Ty.bool Bool.false], [], [True, g30_0 (Prod.fst x0) (Prod.fst x1) = Bool.true, eqD (Ty.cons (Ty.int IntKind.i64) (Ty.cons (Ty.int IntKind.i64) (Ty.cons (Ty.int IntKind.i64) (Ty.cons (Ty.int IntKind.i64) Ty.unit)))) (Prod.fst (Prod.snd x0)) (Prod.fst (Prod.snd x1)) = Bool.true, True, g31_0 (Prod.fst (Prod.snd (Prod.snd x0))) (Prod.fst (Prod.snd (Prod.snd x1))) = Bool.true, True, g32_0 (Prod.fst (Prod.snd (Prod.snd (Prod.snd x0)))) (Prod.fst (Prod.snd (Prod.snd (Prod.snd x1)))) = Bool.false, eqD (Ty.cons (Ty.int IntKind.i64) (Ty.cons (Ty.int IntKind.i64) (Ty.cons (Ty.int IntKind.i64) Ty.unit))) (Prod.fst (Prod.snd (Prod.snd (Prod.snd (Prod.snd (Prod.snd x0)))))) (Prod.fst (Prod.snd (Prod.snd (Prod.snd (Prod.snd (Prod.snd x1)))))) = Bool.true, True, g33_0 (Prod.fst (Prod.snd (Prod.snd (Prod.snd (Prod.snd (Prod.snd (Prod.snd x0))))))) (Prod.fst (Prod.snd (Prod.snd (Prod.snd (Prod.snd (Prod.snd (Prod.snd x1))))))) = Bool.false, Bool.false = Bool.false, Bool.false = Bool.false, Bool.false = Bool.false, Bool.false = Bool.false, Bool.false = Bool.false]) := by kernel_rfl
theorem p7_14 (x0 : TyA0) (x1 : TyA0) : runF tab ext7 false 91 [] 2000 [] oks7 kds7 tys7 Try.f7.results [true, true, true, false, false, false, false, false, false, false, false] [.code b7] (entE 0 0 sig7 (x0, x1, ())) (entL sig7 (x0, x1, ())) = some ([Dyn.mk Ty.bool Bool.false], [], [True, g30_0 (Prod.fst x0) (Prod.fst x1) = Bool.true, eqD (Ty.cons (Ty.int IntKind.i64) (Ty.cons (Ty.int IntKind.i64) (Ty.cons (Ty.int IntKind.i64) (Ty.cons (Ty.int IntKind.i64) Ty.unit)))) (Prod.fst (Prod.snd x0)) (Prod.fst (Prod.snd x1)) = Bool.true, True, g31_0 (Prod.fst (Prod.snd (Prod.snd x0))) (Prod.fst (Prod.snd (Prod.snd x1))) = Bool.true, True, g32_0 (Prod.fst (Prod.snd (Prod.snd (Prod.snd x0)))) (Prod.fst (Prod.snd (Prod.snd (Prod.snd x1)))) = Bool.false, eqD (Ty.cons (Ty.int IntKind.i64) (Ty.cons (Ty.int IntKind.i64) (Ty.cons (Ty.int IntKind.i64) Ty.unit))) (Prod.fst (Prod.snd (Prod.snd (Prod.snd (Prod.snd (Prod.snd x0)))))) (Prod.fst (Prod.snd (Prod.snd (Prod.snd (Prod.snd (Prod.snd x1)))))) = Bool.false, Bool.false = Bool.false, Bool.false = Bool.false, Bool.false = Bool.false, Bool.false = Bool.false, Bool.false = Bool.false, Bool.false = Bool.false]) := by kernel_rfl
theorem p7_15 (x0 : TyA0) (x1 : TyA0) : runF tab ext7 false 91 [] 2000 [] oks7 kds7 tys7 Try.f7.results [true, true, false, false, true, true, true, false, false, false, false] [.code b7] (entE 0 0 sig7 (x0, x1, ())) (entL sig7 (x0, x1, ())) = some ([Dyn.mk Ty.bool Bool.false], [], [True, g30_0 (Prod.fst x0) (Prod.fst x1) = Bool.true, eqD (Ty.cons (Ty.int IntKind.i64) (Ty.cons (Ty.int IntKind.i64) (Ty.cons (Ty.int IntKind.i64) (Ty.cons (Ty.int IntKind.i64) Ty.unit)))) (Prod.fst (Prod.snd x0)) (Prod.fst (Prod.snd x1)) = Bool.true, True, g31_0 (Prod.fst (Prod.snd (Prod.snd x0))) (Prod.fst (Prod.snd (Prod.snd x1))) = Bool.false, Bool.false = Bool.false, eqD (Ty.cons (Ty.int IntKind.i64) (Ty.cons (Ty.int IntKind.i64) (Ty.cons (Ty.int IntKind.i64) Ty.unit))) (Prod.fst (Prod.snd (Prod.snd (Prod.snd (Prod.snd (Prod.snd x0)))))) (Prod.fst (Prod.snd (Prod.snd (Prod.snd (Prod.snd (Prod.snd x1)))))) = Bool.true, True, g33_0 (Prod.fst (Prod.snd (Prod.snd (Prod.snd (Prod.snd (Prod.snd (Prod.snd x0))))))) (Prod.fst (Prod.snd (Prod.snd (Prod.snd (Prod.snd (Prod.snd (Prod.snd x1))))))) = Bool.true, eqD (Ty.cons (Ty.int IntKind.i64) (Ty.cons (Ty.int IntKind.i64) (Ty.cons (Ty.int IntKind.i64) (Ty.cons (Ty.int IntKind.i64) Ty.unit)))) (Prod.fst (Prod.snd (Prod.snd (Prod.snd (Prod.snd (Prod.snd (Prod.snd (Prod.snd x0)))))))) (Prod.fst (Prod.snd (Prod.snd (Prod.snd (Prod.snd (Prod.snd (Prod.snd (Prod.snd x1)))))))) = Bool.true, True, Bool.false = Bool.false, Bool.false = Bool.false, Bool.false = Bool.false, Bool.false = Bool.false]) := by kernel_rfl
theorem p7_16 (x0 : TyA0) (x1 : TyA0) : runF tab ext7 false 91 [] 2000 [] oks7 kds7 tys7 Try.f7.results [true, true, false, false, true, true, false, false, false, false, false] [.code b7] (entE 0 0 sig7 (x0, x1, ())) (entL sig7 (x0, x1, ())) = some ([Dyn.mk Ty.bool Bool.false], [], [True, g30_0 (Prod.fst x0) (Prod.fst x1) = Bool.true, eqD (Ty.cons (Ty.int IntKind.i64) (Ty.cons (Ty.int IntKind.i64) (Ty.cons (Ty.int IntKind.i64) (Ty.cons (Ty.int IntKind.i64) Ty.unit)))) (Prod.fst (Prod.snd x0)) (Prod.fst (Prod.snd x1)) = Bool.true, True, g31_0 (Prod.fst (Prod.snd (Prod.snd x0))) (Prod.fst (Prod.snd (Prod.snd x1))) = Bool.false, Bool.false = Bool.false, eqD (Ty.cons (Ty.int IntKind.i64) (Ty.cons (Ty.int IntKind.i64) (Ty.cons (Ty.int IntKind.i64) Ty.unit))) (Prod.fst (Prod.snd (Prod.snd (Prod.snd (Prod.snd (Prod.snd x0)))))) (Prod.fst (Prod.snd (Prod.snd (Prod.snd (Prod.snd (Prod.snd x1)))))) = Bool.true, True, g33_0 (Prod.fst (Prod.snd (Prod.snd (Prod.snd (Prod.snd (Prod.snd (Prod.snd x0))))))) (Prod.fst (Prod.snd (Prod.snd (Prod.snd (Prod.snd (Prod.snd (Prod.snd x1))))))) = Bool.true, eqD (Ty.cons (Ty.int IntKind.i64) (Ty.cons (Ty.int IntKind.i64) (Ty.cons (Ty.int IntKind.i64) (Ty.cons (Ty.int IntKind.i64) Ty.unit)))) (Prod.fst (Prod.snd (Prod.snd (Prod.snd (Prod.snd (Prod.snd (Prod.snd (Prod.snd x0)))))))) (Prod.fst (Prod.snd (Prod.snd (Prod.snd (Prod.snd (Prod.snd (Prod.snd (Prod.snd x1)))))))) = Bool.false, Bool.false = Bool.false, Bool.false = Bool.false, Bool.false = Bool.false, Bool.false = Bool.false]) := by kernel_rfl
theorem p7_17 (x0 : TyA0) (x1 : TyA0) : runF tab ext7 false 91 [] 2000 [] oks7 kds7 tys7 Try.f7.results [true, true, false, false, true, false, false, false, false, false, false] [.code b7] (entE 0 0 sig7 (x0, x1, ())) (entL sig7 (x0, x1, ())) = some ([Dyn.mk Ty.bool Bool.false], [], [True, g30_0 (Prod.fst x0) (Prod.fst x1) = Bool.true, eqD (Ty.cons (Ty.int IntKind.i64) (Ty.cons (Ty.int IntKind.i64) (Ty.cons (Ty.int IntKind.i64) (Ty.cons (Ty.int IntKind.i64) Ty.unit)))) (Prod.fst (Prod.snd x0)) (Prod.fst (Prod.snd x1)) = Bool.true, True, g31_0 (Prod.fst (Prod.snd (Prod.snd x0))) (Prod.fst (Prod.snd (Prod.snd x1))) = Bool.false, Bool.false = Bool.false, eqD (Ty.cons (Ty.int IntKind.i64) (Ty.cons (Ty.int IntKind.i64) (Ty.cons (Ty.int IntKind.i64) Ty.unit))) (Prod.fst (Prod.snd (Prod.snd (Prod.snd (Prod.snd (Prod.snd x0)))))) (Prod.fst (Prod.snd (Prod.snd (Prod.snd (Prod.snd (Prod.snd x1)))))) = Bool.true, True, g33_0 (Prod.fst (Prod.snd (Prod.snd (Prod.snd (Prod.snd (Prod.snd (Prod.snd x0))))))) (Prod.fst (Prod.snd (Prod.snd (Prod.snd (Prod.snd (Prod.snd (Prod.snd x1))))))) = Bool.false, Bool.false = Bool.false, Bool.false = Bool.false, Bool.false = Bool.false, Bool.false = Bool.false, Bool.false = Bool.false]) := by kernel_rfl
theorem p7_18 (x0 : TyA0) (x1 : TyA0) : runF tab ext7 false 91 [] 2000 [] oks7 kds7 tys7 Try.f7.results [true, true, false, false, false, false, false, false, false, false, false] [.code b7] (entE 0 0 sig7 (x0, x1, ())) (entL sig7 (x0, x1, ())) = some ([Dyn.mk Ty.bool Bool.false], [], [True, g30_0 (Prod.fst x0) (Prod.fst x1) = Bool.true, eqD (Ty.cons (Ty.int IntKind.i64) (Ty.cons (Ty.int IntKind.i64) (Ty.cons (Ty.int IntKind.i64) (Ty.cons (Ty.int IntKind.i64) Ty.unit)))) (Prod.fst (Prod.snd x0)) (Prod.fst (Prod.snd x1)) = Bool.true, True, g31_0 (Prod.fst (Prod.snd (Prod.snd x0))) (Prod.fst (Prod.snd (Prod.snd x1))) = Bool.false, Bool.false = Bool.false, eqD (Ty.cons (Ty.int IntKind.i64) (Ty.cons (Ty.int IntKind.i64) (Ty.cons (Ty.int IntKind.i64) Ty.unit))) (Prod.fst (Prod.snd (Prod.snd (Prod.snd (Prod.snd (Prod.snd x0)))))) (Prod.fst (Prod.snd (Prod.snd (Prod.snd (Prod.snd (Prod.snd x1)))))) = Bool.false, Bool.false = Bool.false, Bool.false = Bool.false, Bool.false = Bool.false, Bool.false = Bool.false, Bool.false = Bool.false, Bool.false = Bool.false]) := by kernel_rfl
theorem p7_19 (x0 : TyA0) (x1 : TyA0) : runF tab ext7 false 91 [] 2000 [] oks7 kds7 tys7 Try.f7.results [true, false, false, false, true, true, true, false, false, false, false] [.code b7] (entE 0 0 sig7 (x0, x1, ())) (entL sig7 (x0, x1, ())) = some ([Dyn.mk Ty.bool Bool.false], [], [True, g30_0 (Prod.fst x0) (Prod.fst x1) = Bool.true, eqD (Ty.cons (Ty.int IntKind.i64) (Ty.cons (Ty.int IntKind.i64) (Ty.cons (Ty.int IntKind.i64) (Ty.cons (Ty.int IntKind.i64) Ty.unit)))) (Prod.fst (Prod.snd x0)) (Prod.fst (Prod.snd x1)) = Bool.false, Bool.false = Bool.false, Bool.false = Bool.false, eqD (Ty.cons (Ty.int IntKind.i64) (Ty.cons (Ty.int IntKind.i64) (Ty.cons (Ty.int IntKind.i64) Ty.unit))) (Prod.fst (Prod.snd (Prod.snd (Prod.snd (Prod.snd (Prod.snd x0)))))) (Prod.fst (Prod.snd (Prod.snd (Prod.snd (Prod.snd (Prod.snd x1)))))) = Bool.true, True, g33_0 (Prod.fst (Prod.snd (Prod.snd (Prod.snd (Prod.snd (Prod.snd (Prod.snd x0))))))) (Prod.fst (Prod.snd (Prod.snd (Prod.snd (Prod.snd (Prod.snd (Prod.snd x1))))))) = Bool.true, eqD (Ty.cons (Ty.int IntKind.i64) (Ty.cons (Ty.int IntKind.i64) (Ty.cons (Ty.int IntKind.i64) (Ty.cons (Ty.int IntKind.i64) Ty.unit)))) (Prod.fst (Prod.snd (Prod.snd (Prod.snd (Prod.snd (Prod.snd (Prod.snd (Prod.snd x0)))))))) (Prod.fst (Prod.snd (Prod.snd (Prod.snd (Prod.snd (Prod.snd (Prod.snd (Prod.snd x1)))))))) = Bool.true, True, Bool.false = Bool.false, Bool.false = Bool.false, Bool.false = Bool.false, Bool.false = Bool.false]) := by kernel_rfl
theorem p7_20 (x0 : TyA0) (x1 : TyA0) : runF tab ext7 false 91 [] 2000 [] oks7 kds7 tys7 Try.f7.results [true, false, false, false, true, true, false, false, false, false, false] [.code b7] (entE 0 0 sig7 (x0, x1, ())) (entL sig7 (x0, x1, ())) = some ([Dyn.mk Ty.bool Bool.false], [], [True, g30_0 (Prod.fst x0) (Prod.fst x1) = Bool.true, eqD (Ty.cons (Ty.int IntKind.i64) (Ty.cons (Ty.int IntKind.i64) (Ty.cons (Ty.int IntKind.i64) (Ty.cons (Ty.int IntKind.i64) Ty.unit)))) (Prod.fst (Prod.snd x0)) (Prod.fst (Prod.snd x1)) = Bool.false, Bool.false = Bool.false, Bool.false = Bool.false, eqD (Ty.cons (Ty.int IntKind.i64) (Ty.cons (Ty.int IntKind.i64) (Ty.cons (Ty.int IntKind.i64) Ty.unit))) (Prod.fst (Prod.snd (Prod.snd (Prod.snd (Prod.snd (Prod.snd x0)))))) (Prod.fst (Prod.snd (Prod.snd (Prod.snd (Prod.snd (Prod.snd x1)))))) = Bool.true, True, g33_0 (Prod.fst (Prod.snd (Prod.snd (Prod.snd (Prod.snd (Prod.snd (Prod.snd x0))))))) (Prod.fst (Prod.snd (Prod.snd (Prod.snd (Prod.snd (Prod.snd (Prod.snd x1))))))) = Bool.true, eqD (Ty.cons (Ty.int IntKind.i64) (Ty.cons (Ty.int IntKind.i64) (Ty.cons (Ty.int IntKind.i64) (Ty.cons (Ty.int IntKind.i64) Ty.unit)))) (Prod.fst (Prod.snd (Prod.snd (Prod.snd (Prod.snd (Prod.snd (Prod.snd (Prod.snd x0)))))))) (Prod.fst (Prod.snd (Prod.snd (Prod.snd (Prod.snd (Prod.snd (Prod.snd (Prod.snd x1)))))))) = Bool.false, Bool.false = Bool.false, Bool.false = Bool.false, Bool.false = Bool.false, Bool.false = Bool.false]) := by kernel_rfl
theorem p7_21 (x0 : TyA0) (x1 : TyA0) : runF tab ext7 false 91 [] 2000 [] oks7 kds7 tys7 Try.f7.results [true, false, false, false, true, false, false, false, false, false, false] [.code b7] (entE 0 0 sig7 (x0, x1, ())) (entL sig7 (x0, x1, ())) = some ([Dyn.mk Ty.bool Bool.false], [], [True, g30_0 (Prod.fst x0) (Prod.fst x1) = Bool.true, eqD (Ty.cons (Ty.int IntKind.i64) (Ty.cons (Ty.int IntKind.i64) (Ty.cons (Ty.int IntKind.i64) (Ty.cons (Ty.int IntKind.i64) Ty.unit)))) (Prod.fst (Prod.snd x0)) (Prod.fst (Prod.snd x1)) = Bool.false, Bool.false = Bool.false, Bool.false = Bool.false, eqD (Ty.cons (Ty.int IntKind.i64) (Ty.cons (Ty.int IntKind.i64) (Ty.cons (Ty.int IntKind.i64) Ty.unit))) (Prod.fst (Prod.snd (Prod.snd (Prod.snd (Prod.snd (Prod.snd x0)))))) (Prod.fst (Prod.snd (Prod.snd (Prod.snd (Prod.snd (Prod.snd x1)))))) = Bool.true, True, g33_0 (Prod.fst (Prod.snd (Prod.snd (Prod.snd (Prod.snd (Prod.snd (Prod.snd x0))))))) (Prod.fst (Prod.snd (Prod.snd (Prod.snd (Prod.snd (Prod.snd (Prod.snd x1))))))) = Bool.false, Bool.false = Bool.false, Bool.false = Bool.false, Bool.false = Bool.false, Bool.false = Bool.false, Bool.false = Bool.false]) := by kernel_rfl
theorem p7_22 (x0 : TyA0) (x1 : TyA0) : runF tab ext7 false 91 [] 2000 [] oks7 kds7 tys7 Try.f7.results [true, false, false, false, false, false, false, false, false, false, false] [.code b7] (entE 0 0 sig7 (x0, x1, ())) (entL sig7 (x0, x1, ())) = some ([Dyn.mk Ty.bool Bool.false], [], [True, g30_0 (Prod.fst x0) (Prod.fst x1) = Bool.true, eqD (Ty.cons (Ty.int IntKind.i64) (Ty.cons (Ty.int IntKind.i64) (Ty.cons (Ty.int IntKind.i64) (Ty.cons (Ty.int IntKind.i64) Ty.unit)))) (Prod.fst (Prod.snd x0)) (Prod.fst (Prod.snd x1)) = Bool.false, Bool.false = Bool.false, Bool.false = Bool.false, eqD (Ty.cons (Ty.int IntKind.i64) (Ty.cons (Ty.int IntKind.i64) (Ty.cons (Ty.int IntKind.i64) Ty.unit))) (Prod.fst (Prod.snd (Prod.snd (Prod.snd (Prod.snd (Prod.snd x0)))))) (Prod.fst (Prod.snd (Prod.snd (Prod.snd (Prod.snd (Prod.snd x1)))))) = Bool.false, Bool.false = Bool.false, Bool.false = Bool.false, Bool.false = Bool.false, Bool.false = Bool.false, Bool.false = Bool.false, Bool.false = Bool.false]) := by kernel_rfl
theorem p7_23 (x0 : TyA0) (x1 : TyA0) : runF tab ext7 false 91 [] 2000 [] oks7 kds7 tys7 Try.f7.results [false, false, false, false, true, true, true, false, false, false, false] [.code b7] (entE 0 0 sig7 (x0, x1, ())) (entL sig7 (x0, x1, ())) = some ([Dyn.mk Ty.bool Bool.false], [], [True, g30_0 (Prod.fst x0) (Prod.fst x1) = Bool.false, Bool.false = Bool.false, Bool.false = Bool.false, Bool.false = Bool.false, eqD (Ty.cons (Ty.int IntKind.i64) (Ty.cons (Ty.int IntKind.i64) (Ty.cons (Ty.int IntKind.i64) Ty.unit))) (Prod.fst (Prod.snd (Prod.snd (Prod.snd (Prod.snd (Prod.snd x0)))))) (Prod.fst (Prod.snd (Prod.snd (Prod.snd (Prod.snd (Prod.snd x1)))))) = Bool.true, True, g33_0 (Prod.fst (Prod.snd (Prod.snd (Prod.snd (Prod.snd (Prod.snd (Prod.snd x0))))))) (Prod.fst (Prod.snd (Prod.snd (Prod.snd (Prod.snd (Prod.snd (Prod.snd x1))))))) = Bool.true, eqD (Ty.cons (Ty.int IntKind.i64) (Ty.cons (Ty.int IntKind.i64) (Ty.cons (Ty.int IntKind.i64) (Ty.cons (Ty.int IntKind.i64) Ty.unit)))) (Prod.fst (Prod.snd (Prod.snd (Prod.snd (Prod.snd (Prod.snd (Prod.snd (Prod.snd x0)))))))) (Prod.fst (Prod.snd (Prod.snd (Prod.snd (Prod.snd (Prod.snd (Prod.snd (Prod.snd x1)))))))) = Bool.true, True, Bool.false = Bool.false, Bool.false = Bool.false, Bool.false = Bool.false, Bool.false = Bool.false]) := by kernel_rfl
theorem p7_24 (x0 : TyA0) (x1 : TyA0) : runF tab ext7 false 91 [] 2000 [] oks7 kds7 tys7 Try.f7.results [false, false, false, false, true, true, false, false, false, false, false] [.code b7] (entE 0 0 sig7 (x0, x1, ())) (entL sig7 (x0, x1, ())) = some ([Dyn.mk Ty.bool Bool.false], [], [True, g30_0 (Prod.fst x0) (Prod.fst x1) = Bool.false, Bool.false = Bool.false, Bool.false = Bool.false, Bool.false = Bool.false, eqD (Ty.cons (Ty.int IntKind.i64) (Ty.cons (Ty.int IntKind.i64) (Ty.cons (Ty.int IntKind.i64) Ty.unit))) (Prod.fst (Prod.snd (Prod.snd (Prod.snd (Prod.snd (Prod.snd x0)))))) (Prod.fst (Prod.snd (Prod.snd (Prod.snd (Prod.snd (Prod.snd x1)))))) = Bool.true, True, g33_0 (Prod.fst (Prod.snd (Prod.snd (Prod.snd (Prod.snd (Prod.snd (Prod.snd x0))))))) (Prod.fst (Prod.snd (Prod.snd (Prod.snd (Prod.snd (Prod.snd (Prod.snd x1))))))) = Bool.true, eqD (Ty.cons (Ty.int IntKind.i64) (Ty.cons (Ty.int IntKind.i64) (Ty.cons (Ty.int IntKind.i64) (Ty.cons (Ty.int IntKind.i64) Ty.unit)))) (Prod.fst (Prod.snd (Prod.snd (Prod.snd (Prod.snd (Prod.snd (Prod.snd (Prod.snd x0)))))))) (Prod.fst (Prod.snd (Prod.snd (Prod.snd (Prod.snd (Prod.snd (Prod.snd (Prod.snd x1)))))))) = Bool.false, Bool.false = Bool.false, Bool.false = Bool.false, Bool.false = Bool.false, Bool.false = Bool.false]) := by kernel_rfl
theorem p7_25 (x0 : TyA0) (x1 : TyA0) : runF tab ext7 false 91 [] 2000 [] oks7 kds7 tys7 Try.f7.results [false, false, false, false, true, false, false, false, false, false, false] [.code b7] (entE 0 0 sig7 (x0, x1, ())) (entL sig7 (x0, x1, ())) = some ([Dyn.mk Ty.bool Bool.false], [], [True, g30_0 (Prod.fst x0) (Prod.fst x1) = Bool.false, Bool.false = Bool.false, Bool.false = Bool.false, Bool.false = Bool.false, eqD (Ty.cons (Ty.int IntKind.i64) (Ty.cons (Ty.int IntKind.i64) (Ty.cons (Ty.int IntKind.i64) Ty.unit))) (Prod.fst (Prod.snd (Prod.snd (Prod.snd (Prod.snd (Prod.snd x0)))))) (Prod.fst (Prod.snd (Prod.snd (Prod.snd (Prod.snd (Prod.snd x1)))))) = Bool.true, True, g33_0 (Prod.fst (Prod.snd (Prod.snd (Prod.snd (Prod.snd (Prod.snd (Prod.snd x0))))))) (Prod.fst (Prod.snd (Prod.snd (Prod.snd (Prod.snd (Prod.snd (Prod.snd x1))))))) = Bool.false, Bool.false = Bool.false, Bool.false = Bool.false, Bool.false = Bool.false, Bool.false = Bool.false, Bool.false = Bool.false]) := by kernel_rfl
theorem p7_26 (x0 : TyA0) (x1 : TyA0) : runF tab ext7 false 91 [] 2000 [] oks7 kds7 tys7 Try.f7.results [false, false, false, false, false, false, false, false, false, false, false] [.code b7] (entE 0 0 sig7 (x0, x1, ())) (entL sig7 (x0, x1, ())) = some ([Dyn.mk Ty.bool Bool.false], [], [True, g30_0 (Prod.fst x0) (Prod.fst x1) = Bool.false, Bool.false = Bool.false, Bool.false = Bool.false, Bool.false = Bool.false, eqD (Ty.cons (Ty.int IntKind.i64) (Ty.cons (Ty.int IntKind.i64) (Ty.cons (Ty.int IntKind.i64) Ty.unit))) (Prod.fst (Prod.snd (Prod.snd (Prod.snd (Prod.snd (Prod.snd x0)))))) (Prod.fst (Prod.snd (Prod.snd (Prod.snd (Prod.snd (Prod.snd x1)))))) = Bool.false, Bool.false = Bool.false, Bool.false = Bool.false, Bool.false = Bool.false, Bool.false = Bool.false, Bool.false = Bool.false, Bool.false = Bool.false]) := by kernel_rfl
theorem at7 (x0 : TyA0) (x1 : TyA0) (h : P7 x0 x1) (K : Ctx) (q : Nat → Value) : AtV Try.prog 7 (PostR kds7 oks7 [⟨Ty.bool, g7_0 x0 x1⟩] [] [] q K) 91 K q [] [.code b7] (entE 0 0 sig7 (x0, x1, ())) (entL sig7 (x0, x1, ())) := by
  unfold P7 at h
  unfold g7_0
  by_cases b0 : (g30_0 (Prod.fst x0) (Prod.fst x1)) = true
  · try simp only [if_pos b0] at h ⊢
    by_cases b1 : (eqD (Ty.cons (Ty.int IntKind.i64) (Ty.cons (Ty.int IntKind.i64) (Ty.cons (Ty.int IntKind.i64) (Ty.cons (Ty.int IntKind.i64) Ty.unit)))) (Prod.fst (Prod.snd x0)) (Prod.fst (Prod.snd x1))) = true
    · try simp only [if_pos b1] at h ⊢
      by_cases b2 : (g31_0 (Prod.fst (Prod.snd (Prod.snd x0))) (Prod.fst (Prod.snd (Prod.snd x1)))) = true
      · try simp only [if_pos b2] at h ⊢
        by_cases b3 : (g32_0 (Prod.fst (Prod.snd (Prod.snd (Prod.snd x0)))) (Prod.fst (Prod.snd (Prod.snd (Prod.snd x1))))) = true
        · try simp only [if_pos b3] at h ⊢
          by_cases b4 : (eqD (Ty.cons (Ty.int IntKind.i64) (Ty.cons (Ty.int IntKind.i64) (Ty.cons (Ty.int IntKind.i64) Ty.unit))) (Prod.fst (Prod.snd (Prod.snd (Prod.snd (Prod.snd (Prod.snd x0)))))) (Prod.fst (Prod.snd (Prod.snd (Prod.snd (Prod.snd (Prod.snd x1))))))) = true
          · try simp only [if_pos b4] at h ⊢
            by_cases b5 : (g33_0 (Prod.fst (Prod.snd (Prod.snd (Prod.snd (Prod.snd (Prod.snd (Prod.snd x0))))))) (Prod.fst (Prod.snd (Prod.snd (Prod.snd (Prod.snd (Prod.snd (Prod.snd x1)))))))) = true
            · try simp only [if_pos b5] at h ⊢
              by_cases b6 : (eqD (Ty.cons (Ty.int IntKind.i64) (Ty.cons (Ty.int IntKind.i64) (Ty.cons (Ty.int IntKind.i64) (Ty.cons (Ty.int IntKind.i64) Ty.unit)))) (Prod.fst (Prod.snd (Prod.snd (Prod.snd (Prod.snd (Prod.snd (Prod.snd (Prod.snd x0)))))))) (Prod.fst (Prod.snd (Prod.snd (Prod.snd (Prod.snd (Prod.snd (Prod.snd (Prod.snd x1))))))))) = true
              · try simp only [if_pos b6] at h ⊢
                by_cases b7 : (eqD (Ty.cons (Ty.int IntKind.i64) (Ty.cons (Ty.int IntKind.i64) (Ty.cons (Ty.int IntKind.i64) Ty.unit))) (Prod.fst (Prod.snd (Prod.snd (Prod.snd (Prod.snd x0))))) (Prod.fst (Prod.snd (Prod.snd (Prod.snd (Prod.snd x1)))))) = true
                · try simp only [if_pos b7] at h ⊢
                  by_cases b8 : (g34_0 (Prod.fst (Prod.snd (Prod.snd (Prod.snd (Prod.snd (Prod.snd (Prod.snd (Prod.snd (Prod.snd x0))))))))) (Prod.fst (Prod.snd (Prod.snd (Prod.snd (Prod.snd (Prod.snd (Prod.snd (Prod.snd (Prod.snd x1)))))))))) = true
                  · try simp only [if_pos b8] at h ⊢
                    by_cases b9 : (g35_0 (Prod.fst (Prod.snd (Prod.snd (Prod.snd (Prod.snd (Prod.snd (Prod.snd (Prod.snd (Prod.snd (Prod.snd x0)))))))))) (Prod.fst (Prod.snd (Prod.snd (Prod.snd (Prod.snd (Prod.snd (Prod.snd (Prod.snd (Prod.snd (Prod.snd x1))))))))))) = true
                    · try simp only [if_pos b9] at h ⊢
                      by_cases b10 : (g36_0 (Prod.fst (Prod.snd (Prod.snd (Prod.snd (Prod.snd (Prod.snd (Prod.snd (Prod.snd (Prod.snd (Prod.snd (Prod.snd x0))))))))))) (Prod.fst (Prod.snd (Prod.snd (Prod.snd (Prod.snd (Prod.snd (Prod.snd (Prod.snd (Prod.snd (Prod.snd (Prod.snd x1)))))))))))) = true
                      · try simp only [if_pos b10] at h ⊢
                        exact AtV.fin Try.func7 tabOk ext7Ok mixed (p7_0 x0 x1) ⟨trivial, b0, b1, trivial, b2, trivial, b3, b4, trivial, b5, b6, trivial, b7, b8, trivial, b9, trivial, b10, trivial, trivial⟩
                      · try simp only [if_neg b10] at h ⊢
                        replace b10 := Bool.eq_false_iff.2 b10
                        exact AtV.fin Try.func7 tabOk ext7Ok mixed (p7_1 x0 x1) ⟨trivial, b0, b1, trivial, b2, trivial, b3, b4, trivial, b5, b6, trivial, b7, b8, trivial, b9, trivial, b10, trivial⟩
                    · try simp only [if_neg b9] at h ⊢
                      replace b9 := Bool.eq_false_iff.2 b9
                      exact AtV.fin Try.func7 tabOk ext7Ok mixed (p7_2 x0 x1) ⟨trivial, b0, b1, trivial, b2, trivial, b3, b4, trivial, b5, b6, trivial, b7, b8, trivial, b9, rfl, trivial⟩
                  · try simp only [if_neg b8] at h ⊢
                    replace b8 := Bool.eq_false_iff.2 b8
                    exact AtV.fin Try.func7 tabOk ext7Ok mixed (p7_3 x0 x1) ⟨trivial, b0, b1, trivial, b2, trivial, b3, b4, trivial, b5, b6, trivial, b7, b8, rfl, rfl, trivial⟩
                · try simp only [if_neg b7] at h ⊢
                  replace b7 := Bool.eq_false_iff.2 b7
                  exact AtV.fin Try.func7 tabOk ext7Ok mixed (p7_4 x0 x1) ⟨trivial, b0, b1, trivial, b2, trivial, b3, b4, trivial, b5, b6, trivial, b7, rfl, rfl, rfl, trivial⟩
              · try simp only [if_neg b6] at h ⊢
                replace b6 := Bool.eq_false_iff.2 b6
                by_cases b7 : (eqD (Ty.cons (Ty.int IntKind.i64) (Ty.cons (Ty.int IntKind.i64) (Ty.cons (Ty.int IntKind.i64) Ty.unit))) (Prod.fst (Prod.snd (Prod.snd (Prod.snd (Prod.snd x0))))) (Prod.fst (Prod.snd (Prod.snd (Prod.snd (Prod.snd x1)))))) = true
                · try simp only [if_pos b7] at h ⊢
                  exact AtV.fin Try.func7 tabOk ext7Ok mixed (p7_5 x0 x1) ⟨trivial, b0, b1, trivial, b2, trivial, b3, b4, trivial, b5, b6, b7, rfl, rfl, rfl, trivial⟩
                · try simp only [if_neg b7] at h ⊢
                  replace b7 := Bool.eq_false_iff.2 b7
                  exact AtV.fin Try.func7 tabOk ext7Ok mixed (p7_6 x0 x1) ⟨trivial, b0, b1, trivial, b2, trivial, b3, b4, trivial, b5, b6, b7, rfl, rfl, rfl, trivial⟩
            · try simp only [if_neg b5] at h ⊢
              replace b5 := Bool.eq_false_iff.2 b5
              by_cases b6 : (eqD (Ty.cons (Ty.int IntKind.i64) (Ty.cons (Ty.int IntKind.i64) (Ty.cons (Ty.int IntKind.i64) Ty.unit))) (Prod.fst (Prod.snd (Prod.snd (Prod.snd (Prod.snd x0))))) (Prod.fst (Prod.snd (Prod.snd (Prod.snd (Prod.snd x1)))))) = true
              · try simp only [if_pos b6] at h ⊢
                exact AtV.fin Try.func7 tabOk ext7Ok mixed (p7_7 x0 x1) ⟨trivial, b0, b1, trivial, b2, trivial, b3, b4, trivial, b5, rfl, b6, rfl, rfl, rfl, trivial⟩
              · try simp only [if_neg b6] at h ⊢
                replace b6 := Bool.eq_false_iff.2 b6
                exact AtV.fin Try.func7 tabOk ext7Ok mixed (p7_8 x0 x1) ⟨trivial, b0, b1, trivial, b2, trivial, b3, b4, trivial, b5, rfl, b6, rfl, rfl, rfl, trivial⟩
          · try simp only [if_neg b4] at h ⊢
            replace b4 := Bool.eq_false_iff.2 b4
            by_cases b5 : (eqD (Ty.cons (Ty.int IntKind.i64) (Ty.cons (Ty.int IntKind.i64) (Ty.cons (Ty.int IntKind.i64) Ty.unit))) (Prod.fst (Prod.snd (Prod.snd (Prod.snd (Prod.snd x0))))) (Prod.fst (Prod.snd (Prod.snd (Prod.snd (Prod.snd x1)))))) = true
            · try simp only [if_pos b5] at h ⊢
              exact AtV.fin Try.func7 tabOk ext7Ok mixed (p7_9 x0 x1) ⟨trivial, b0, b1, trivial, b2, trivial, b3, b4, rfl, rfl, b5, rfl, rfl, rfl, trivial⟩
            · try simp only [if_neg b5] at h ⊢
              replace b5 := Bool.eq_false_iff.2 b5
              exact AtV.fin Try.func7 tabOk ext7Ok mixed (p7_10 x0 x1) ⟨trivial, b0, b1, trivial, b2, trivial, b3, b4, rfl, rfl, b5, rfl, rfl, rfl, trivial⟩
        · try simp only [if_neg b3] at h ⊢
          replace b3 := Bool.eq_false_iff.2 b3
          by_cases b4 : (eqD (Ty.cons (Ty.int IntKind.i64) (Ty.cons (Ty.int IntKind.i64) (Ty.cons (Ty.int IntKind.i64) Ty.unit))) (Prod.fst (Prod.snd (Prod.snd (Prod.snd (Prod.snd (Prod.snd x0)))))) (Prod.fst (Prod.snd (Prod.snd (Prod.snd (Prod.snd (Prod.snd x1))))))) = true
          · try simp only [if_pos b4] at h ⊢
            by_cases b5 : (g33_0 (Prod.fst (Prod.snd (Prod.snd (Prod.snd (Prod.snd (Prod.snd (Prod.snd x0))))))) (Prod.fst (Prod.snd (Prod.snd (Prod.snd (Prod.snd (Prod.snd (Prod.snd x1)))))))) = true
            · try simp only [if_pos b5] at h ⊢
              by_cases b6 : (eqD (Ty.cons (Ty.int IntKind.i64) (Ty.cons (Ty.int IntKind.i64) (Ty.cons (Ty.int IntKind.i64) (Ty.cons (Ty.int IntKind.i64) Ty.unit)))) (Prod.fst (Prod.snd (Prod.snd (Prod.snd (Prod.snd (Prod.snd (Prod.snd (Prod.snd x0)))))))) (Prod.fst (Prod.snd (Prod.snd (Prod.snd (Prod.snd (Prod.snd (Prod.snd (Prod.snd x1))))))))) = true
              · try simp only [if_pos b6] at h ⊢
                exact AtV.fin Try.func7 tabOk ext7Ok mixed (p7_11 x0 x1) ⟨trivial, b0, b1, trivial, b2, trivial, b3, b4, trivial, b5, b6, trivial, rfl, rfl, rfl, rfl, trivial⟩
              · try simp only [if_neg b6] at h ⊢
                replace b6 := Bool.eq_false_iff.2 b6
                exact AtV.fin Try.func7 tabOk ext7Ok mixed (p7_12 x0 x1) ⟨trivial, b0, b1, trivial, b2, trivial, b3, b4, trivial, b5, b6, rfl, rfl, rfl, rfl, trivial⟩
            · try simp only [if_neg b5] at h ⊢
              replace b5 := Bool.eq_false_iff.2 b5
              exact AtV.fin Try.func7 tabOk ext7Ok mixed (p7_13 x0 x1) ⟨trivial, b0, b1, trivial, b2, trivial, b3, b4, trivial, b5, rfl, rfl, rfl, rfl, rfl, trivial⟩
          · try simp only [if_neg b4] at h ⊢
            replace b4 := Bool.eq_false_iff.2 b4
            exact AtV.fin Try.func7 tabOk ext7Ok mixed (p7_14 x0 x1) ⟨trivial, b0, b1, trivial, b2, trivial, b3, b4, rfl, rfl, rfl, rfl, rfl, rfl, trivial⟩
      · try simp only [if_neg b2] at h ⊢
        replace b2 := Bool.eq_false_iff.2 b2
        by_cases b3 : (eqD (Ty.cons (Ty.int IntKind.i64) (Ty.cons (Ty.int IntKind.i64) (Ty.cons (Ty.int IntKind.i64) Ty.unit))) (Prod.fst (Prod.snd (Prod.snd (Prod.snd (Prod.snd (Prod.snd x0)))))) (Prod.fst (Prod.snd (Prod.snd (Prod.snd (Prod.snd (Prod.snd x1))))))) = true
        · try simp only [if_pos b3] at h ⊢
          by_cases b4 : (g33_0 (Prod.fst (Prod.snd (Prod.snd (Prod.snd (Prod.snd (Prod.snd (Prod.snd x0))))))) (Prod.fst (Prod.snd (Prod.snd (Prod.snd (Prod.snd (Prod.snd (Prod.snd x1)))))))) = true
          · try simp only [if_pos b4] at h ⊢
            by_cases b5 : (eqD (Ty.cons (Ty.int IntKind.i64) (Ty.cons (Ty.int IntKind.i64) (Ty.cons (Ty.int IntKind.i64) (Ty.cons (Ty.int IntKind.i64) Ty.unit)))) (Prod.fst (Prod.snd (Prod.snd (Prod.snd (Prod.snd (Prod.snd (Prod.snd (Prod.snd x0)))))))) (Prod.fst (Prod.snd (Prod.snd (Prod.snd (Prod.snd (Prod.snd (Prod.snd (Prod.snd x1))))))))) = true
            · try simp only [if_pos b5] at h ⊢
              exact AtV.fin Try.func7 tabOk ext7Ok mixed (p7_15 x0 x1) ⟨trivial, b0, b1, trivial, b2, rfl, b3, trivial, b4, b5, trivial, rfl, rfl, rfl, rfl, trivial⟩
            · try simp only [if_neg b5] at h ⊢
              replace b5 := Bool.eq_false_iff.2 b5
              exact AtV.fin Try.func7 tabOk ext7Ok mixed (p7_16 x0 x1) ⟨trivial, b0, b1, trivial, b2, rfl, b3, trivial, b4, b5, rfl, rfl, rfl, rfl, trivial⟩
          · try simp only [if_neg b4] at h ⊢
            replace b4 := Bool.eq_false_iff.2 b4
            exact AtV.fin Try.func7 tabOk ext7Ok mixed (p7_17 x0 x1) ⟨trivial, b0, b1, trivial, b2, rfl, b3, trivial, b4, rfl, rfl, rfl, rfl, rfl, trivial⟩
        · try simp only [if_neg b3] at h ⊢
          replace b3 := Bool.eq_false_iff.2 b3
          exact AtV.fin Try.func7 tabOk ext7Ok mixed (p7_18 x0 x1) ⟨trivial, b0, b1, trivial, b2, rfl, b3, rfl, rfl, rfl, rfl, rfl, rfl, trivial⟩
    · try simp only [if_neg b1] at h ⊢
      replace b1 := Bool.eq_false_iff.2 b1
      by_cases b2 : (eqD (Ty.cons (Ty.int IntKind.i64) (Ty.cons (Ty.int IntKind.i64) (Ty.cons (Ty.int IntKind.i64) Ty.unit))) (Prod.fst (Prod.snd (Prod.snd (Prod.snd (Prod.snd (Prod.snd x0)))))) (Prod.fst (Prod.snd (Prod.snd (Prod.snd (Prod.snd (Prod.snd x1))))))) = true
      · try simp only [if_pos b2] at h ⊢
        by_cases b3 : (g33_0 (Prod.fst (Prod.snd (Prod.snd (Prod.snd (Prod.snd (Prod.snd (Prod.snd x0))))))) (Prod.fst (Prod.snd (Prod.snd (Prod.snd (Prod.snd (Prod.snd (Prod.snd x1)))))))) = true
        · try simp only [if_pos b3] at h ⊢
          by_cases b4 : (eqD (Ty.cons (Ty.int IntKind.i64) (Ty.cons (Ty.int IntKind.i64) (Ty.cons (Ty.int IntKind.i64) (Ty.cons (Ty.int IntKind.i64) Ty.unit)))) (Prod.fst (Prod.snd (Prod.snd (Prod.snd (Prod.snd (Prod.snd (Prod.snd (Prod.snd x0)))))))) (Prod.fst (Prod.snd (Prod.snd (Prod.snd (Prod.snd (Prod.snd (Prod.snd (Prod.snd x1))))))))) = true
          · try simp only [if_pos b4] at h ⊢
            exact AtV.fin Try.func7 tabOk ext7Ok mixed (p7_19 x0 x1) ⟨trivial, b0, b1, rfl, rfl, b2, trivial, b3, b4, trivial, rfl, rfl, rfl, rfl, trivial⟩
          · try simp only [if_neg b4] at h ⊢
            replace b4 := Bool.eq_false_iff.2 b4
            exact AtV.fin Try.func7 tabOk ext7Ok mixed (p7_20 x0 x1) ⟨trivial, b0, b1, rfl, rfl, b2, trivial, b3, b4, rfl, rfl, rfl, rfl, trivial⟩
        · try simp only [if_neg b3] at h ⊢
          replace b3 := Bool.eq_false_iff.2 b3
          exact AtV.fin Try.func7 tabOk ext7Ok mixed (p7_21 x0 x1) ⟨trivial, b0, b1, rfl, rfl, b2, trivial, b3, rfl, rfl, rfl, rfl, rfl, trivial⟩
      · try simp only [if_neg b2] at h ⊢
        replace b2 := Bool.eq_false_iff.2 b2
        exact AtV.fin Try.func7 tabOk ext7Ok mixed (p7_22 x0 x1) ⟨trivial, b0, b1, rfl, rfl, b2, rfl, rfl, rfl, rfl, rfl, rfl, trivial⟩
  · try simp only [if_neg b0] at h ⊢
    replace b0 := Bool.eq_false_iff.2 b0
    by_cases b1 : (eqD (Ty.cons (Ty.int IntKind.i64) (Ty.cons (Ty.int IntKind.i64) (Ty.cons (Ty.int IntKind.i64) Ty.unit))) (Prod.fst (Prod.snd (Prod.snd (Prod.snd (Prod.snd (Prod.snd x0)))))) (Prod.fst (Prod.snd (Prod.snd (Prod.snd (Prod.snd (Prod.snd x1))))))) = true
    · try simp only [if_pos b1] at h ⊢
      by_cases b2 : (g33_0 (Prod.fst (Prod.snd (Prod.snd (Prod.snd (Prod.snd (Prod.snd (Prod.snd x0))))))) (Prod.fst (Prod.snd (Prod.snd (Prod.snd (Prod.snd (Prod.snd (Prod.snd x1)))))))) = true
      · try simp only [if_pos b2] at h ⊢
        by_cases b3 : (eqD (Ty.cons (Ty.int IntKind.i64) (Ty.cons (Ty.int IntKind.i64) (Ty.cons (Ty.int IntKind.i64) (Ty.cons (Ty.int IntKind.i64) Ty.unit)))) (Prod.fst (Prod.snd (Prod.snd (Prod.snd (Prod.snd (Prod.snd (Prod.snd (Prod.snd x0)))))))) (Prod.fst (Prod.snd (Prod.snd (Prod.snd (Prod.snd (Prod.snd (Prod.snd (Prod.snd x1))))))))) = true
        · try simp only [if_pos b3] at h ⊢
          exact AtV.fin Try.func7 tabOk ext7Ok mixed (p7_23 x0 x1) ⟨trivial, b0, rfl, rfl, rfl, b1, trivial, b2, b3, trivial, rfl, rfl, rfl, rfl, trivial⟩
        · try simp only [if_neg b3] at h ⊢
          replace b3 := Bool.eq_false_iff.2 b3
          exact AtV.fin Try.func7 tabOk ext7Ok mixed (p7_24 x0 x1) ⟨trivial, b0, rfl, rfl, rfl, b1, trivial, b2, b3, rfl, rfl, rfl, rfl, trivial⟩
      · try simp only [if_neg b2] at h ⊢
        replace b2 := Bool.eq_false_iff.2 b2
        exact AtV.fin Try.func7 tabOk ext7Ok mixed (p7_25 x0 x1) ⟨trivial, b0, rfl, rfl, rfl, b1, trivial, b2, rfl, rfl, rfl, rfl, rfl, trivial⟩
    · try simp only [if_neg b1] at h ⊢
      replace b1 := Bool.eq_false_iff.2 b1
      exact AtV.fin Try.func7 tabOk ext7Ok mixed (p7_26 x0 x1) ⟨trivial, b0, rfl, rfl, rfl, b1, rfl, rfl, rfl, rfl, rfl, rfl, trivial⟩

def S7 : Am.Spec := { sig := sig7, pre := fun ⟨x0, x1, _⟩ => P7 x0 x1, res := fun ⟨x0, x1, _⟩ => [⟨Ty.bool, g7_0 x0 x1⟩], kds := kds7 }
theorem con7 : Contract Try.prog 7 S7 := contract_of Try.func7 hb7 (Nat.le_of_ble_eq_true (by kernel_rfl)) (fun ⟨x0, x1, _⟩ h _ K q => at7 x0 x1 h K q)


end Go.Proofs.Ytpcfcplggpchjaa

/- Function 17 (spec.l32Lists): its runs between cut points. Written by a program of this repo (gen). -/
set_option linter.unusedVariables false
set_option linter.unusedSimpArgs false
set_option maxRecDepth 100000
namespace Go.Proofs.Ytpcfcplggpchjaa
open Go Go.Am Go.Proofs
def ext17 : Ext := []
theorem ext17Ok : ExtOk Try.prog ext17 := trivial

noncomputable def b17 : Code := bodyOf Try.f17
theorem hb17 : Try.f17.body = some b17 := by kernel_rfl
def sig17 : List AT := [AT.p (Ty.cons (Ty.sl (Ty.cons Ty.str (Ty.cons (Ty.int IntKind.i64) (Ty.cons (Ty.int IntKind.i64) (Ty.cons (Ty.int IntKind.i64) Ty.unit))))) (Ty.cons (Ty.cons (Ty.int IntKind.i64) (Ty.cons (Ty.int IntKind.i64) (Ty.cons (Ty.int IntKind.i64) (Ty.cons (Ty.int IntKind.i64) Ty.unit)))) (Ty.cons (Ty.sl (Ty.cons (Ty.int IntKind.i64) (Ty.cons (Ty.int IntKind.i64) (Ty.cons (Ty.int IntKind.i64) Ty.unit)))) (Ty.cons (Ty.sl (Ty.cons (Ty.int IntKind.i64) (Ty.cons (Ty.int IntKind.i64) (Ty.cons (Ty.int IntKind.i64) Ty.unit)))) (Ty.cons (Ty.cons (Ty.int IntKind.i64) (Ty.cons (Ty.int IntKind.i64) (Ty.cons (Ty.int IntKind.i64) Ty.unit))) (Ty.cons (Ty.cons (Ty.int IntKind.i64) (Ty.cons (Ty.int IntKind.i64) (Ty.cons (Ty.int IntKind.i64) Ty.unit))) (Ty.cons (Ty.sl (Ty.cons Ty.str (Ty.cons (Ty.int IntKind.i64) (Ty.cons (Ty.int IntKind.i64) Ty.unit)))) (Ty.cons (Ty.cons (Ty.int IntKind.i64) (Ty.cons (Ty.int IntKind.i64) (Ty.cons (Ty.int IntKind.i64) (Ty.cons (Ty.int IntKind.i64) Ty.unit)))) (Ty.cons (Ty.sl (Ty.cons Ty.str (Ty.cons (Ty.int IntKind.i64) (Ty.cons (Ty.int IntKind.i64) (Ty.cons (Ty.int IntKind.i64) Ty.unit))))) (Ty.cons (Ty.sl (Ty.cons (Ty.int IntKind.i64) (Ty.cons (Ty.int IntKind.i64) (Ty.cons (Ty.int IntKind.i64) Ty.unit)))) (Ty.cons (Ty.sl (Ty.cons Ty.str (Ty.cons (Ty.int IntKind.i64) (Ty.cons (Ty.int IntKind.i64) Ty.unit)))) (Ty.cons (Ty.sl (Ty.cons Ty.str (Ty.cons (Ty.int IntKind.i64) (Ty.cons (Ty.int IntKind.i64) Ty.unit)))) Ty.unit)))))))))))), AT.p (Ty.cons (Ty.sl (Ty.cons Ty.str (Ty.cons (Ty.int IntKind.i64) (Ty.cons (Ty.int IntKind.i64) (Ty.cons (Ty.int IntKind.i64) Ty.unit))))) (Ty.cons (Ty.cons (Ty.int IntKind.i64) (Ty.cons (Ty.int IntKind.i64) (Ty.cons (Ty.int IntKind.i64) (Ty.cons (Ty.int IntKind.i64) Ty.unit)))) (Ty.cons (Ty.sl (Ty.cons (Ty.int IntKind.i64) (Ty.cons (Ty.int IntKind.i64) (Ty.cons (Ty.int IntKind.i64) Ty.unit)))) (Ty.cons (Ty.sl (Ty.cons (Ty.int IntKind.i64) (Ty.cons (Ty.int IntKind.i64) (Ty.cons (Ty.int IntKind.i64) Ty.unit)))) (Ty.cons (Ty.cons (Ty.int IntKind.i64) (Ty.cons (Ty.int IntKind.i64) (Ty.cons (Ty.int IntKind.i64) Ty.unit))) (Ty.cons (Ty.cons (Ty.int IntKind.i64) (Ty.cons (Ty.int IntKind.i64) (Ty.cons (Ty.int IntKind.i64) Ty.unit))) (Ty.cons (Ty.sl (Ty.cons Ty.str (Ty.cons (Ty.int IntKind.i64) (Ty.cons (Ty.int IntKind.i64) Ty.unit)))) (Ty.cons (Ty.cons (Ty.int IntKind.i64) (Ty.cons (Ty.int IntKind.i64) (Ty.cons (Ty.int IntKind.i64) (Ty.cons (Ty.int IntKind.i64) Ty.unit)))) (Ty.cons (Ty.sl (Ty.cons Ty.str (Ty.cons (Ty.int IntKind.i64) (Ty.cons (Ty.int IntKind.i64) (Ty.cons (Ty.int IntKind.i64) Ty.unit))))) (Ty.cons (Ty.sl (Ty.cons (Ty.int IntKind.i64) (Ty.cons (Ty.int IntKind.i64) (Ty.cons (Ty.int IntKind.i64) Ty.unit)))) (Ty.cons (Ty.sl (Ty.cons Ty.str (Ty.cons (Ty.int IntKind.i64) (Ty.cons (Ty.int IntKind.i64) Ty.unit)))) (Ty.cons (Ty.sl (Ty.cons Ty.str (Ty.cons (Ty.int IntKind.i64) (Ty.cons (Ty.int IntKind.i64) Ty.unit)))) Ty.unit))))))))))))]
def tys17 : List Ty := [Ty.bool]
def kds17 : List RK := []
def oks17 : List AT := owns sig17
def P17 (x0 : TyA0) (x1 : TyA0) : Prop := True
def g17_0 (x0 : TyA0) (x1 : TyA0) : Bool := (if ((↑(List.length (Prod.fst x0)) : Int) == (↑(List.length (Prod.fst x1)) : Int)) = true then (if ((↑(List.length (Prod.fst (Prod.snd (Prod.snd x0)))) : Int) == (↑(List.length (Prod.fst (Prod.snd (Prod.snd x1)))) : Int)) = true then (if ((↑(List.length (Prod.fst (Prod.snd (Prod.snd (Prod.snd x0))))) : Int) == (↑(List.length (Prod.fst (Prod.snd (Prod.snd (Prod.snd x1))))) : Int)) = true then (if ((↑(List.length (Prod.fst (Prod.snd (Prod.snd (Prod.snd (Prod.snd (Prod.snd (Prod.snd x0)))))))) : Int) == (↑(List.length (Prod.fst (Prod.snd (Prod.snd (Prod.snd (Prod.snd (Prod.snd (Prod.snd x1)))))))) : Int)) = true then (if ((↑(List.length (Prod.fst (Prod.snd (Prod.snd (Prod.snd (Prod.snd (Prod.snd (Prod.snd (Prod.snd (Prod.snd x0)))))))))) : Int) == (↑(List.length (Prod.fst (Prod.snd (Prod.snd (Prod.snd (Prod.snd (Prod.snd (Prod.snd (Prod.snd (Prod.snd x1)))))))))) : Int)) = true then (if ((↑(List.length (Prod.fst (Prod.snd (Prod.snd (Prod.snd (Prod.snd (Prod.snd (Prod.snd (Prod.snd (Prod.snd (Prod.snd x0))))))))))) : Int) == (↑(List.length (Prod.fst (Prod.snd (Prod.snd (Prod.snd (Prod.snd (Prod.snd (Prod.snd (Prod.snd (Prod.snd (Prod.snd x1))))))))))) : Int)) = true then (if ((↑(List.length (Prod.fst (Prod.snd (Prod.snd (Prod.snd (Prod.snd (Prod.snd (Prod.snd (Prod.snd (Prod.snd (Prod.snd (Prod.snd x0)))))))))))) : Int) == (↑(List.length (Prod.fst (Prod.snd (Prod.snd (Prod.snd (Prod.snd (Prod.snd (Prod.snd (Prod.snd (Prod.snd (Prod.snd (Prod.snd x1)))))))))))) : Int)) = true then (↑(List.length (Prod.fst (Prod.snd (Prod.snd (Prod.snd (Prod.snd (Prod.snd (Prod.snd (Prod.snd (Prod.snd (Prod.snd (Prod.snd (Prod.snd x0))))))))))))) : Int) == (↑(List.length (Prod.fst (Prod.snd (Prod.snd (Prod.snd (Prod.snd (Prod.snd (Prod.snd (Prod.snd (Prod.snd (Prod.snd (Prod.snd (Prod.snd x1))))))))))))) : Int) else Bool.false) else Bool.false) else Bool.false) else Bool.false) else Bool.false) else Bool.false) else Bool.false)
theorem p17_0 (x0 : TyA0) (x1 : TyA0) : runF tab ext17 false 107 [] 2000 [] oks17 kds17 tys17 Try.f17.results [true, true, true, true, true, true, true] [.code b17] (entE 0 0 sig17 (x0, x1, ())) (entL sig17 (x0, x1, ())) = some ([Dyn.mk Ty.bool ((↑(List.length (Prod.fst (Prod.snd (Prod.snd (Prod.snd (Prod.snd (Prod.snd (Prod.snd (Prod.snd (Prod.snd (Prod.snd (Prod.snd (Prod.snd x0))))))))))))) : Int) == (↑(List.length (Prod.fst (Prod.snd (Prod.snd (Prod.snd (Prod.snd (Prod.snd (Prod.snd (Prod.snd (Prod.snd (Prod.snd (Prod.snd (Prod.snd x1))))))))))))) : Int))], [], [((↑(List.length (Prod.fst x0)) : Int) == (↑(List.length (Prod.fst x1)) : Int)) = Bool.true, ((↑(List.length (Prod.fst (Prod.snd (Prod.snd x0)))) : Int) == (↑(List.length (Prod.fst (Prod.snd (Prod.snd x1)))) : Int)) = Bool.true, ((↑(List.length (Prod.fst (Prod.snd (Prod.snd (Prod.snd x0))))) : Int) == (↑(List.length (Prod.fst (Prod.snd (Prod.snd (Prod.snd x1))))) : Int)) = Bool.true, ((↑(List.length (Prod.fst (Prod.snd (Prod.snd (Prod.snd (Prod.snd (Prod.snd (Prod.snd x0)))))))) : Int) == (↑(List.length (Prod.fst (Prod.snd (Prod.snd (Prod.snd (Prod.snd (Prod.snd (Prod.snd x1)))))))) : Int)) = Bool.true, ((↑(List.length (Prod.fst (Prod.snd (Prod.snd (Prod.snd (Prod.snd (Prod.snd (Prod.snd (Prod.snd (Prod.snd x0)))))))))) : Int) == (↑(List.length (Prod.fst (Prod.snd (Prod.snd (Prod.snd (Prod.snd (Prod.snd (Prod.snd (Prod.snd (Prod.snd x1)))))))))) : Int)) = Bool.true, ((↑(List.length (Prod.fst (Prod.snd (Prod.snd (Prod.snd (Prod.snd (Prod.snd (Prod.snd (Prod.snd (Prod.snd (Prod.snd x0))))))))))) : Int) == (↑(List.length (Prod.fst (Prod.snd (Prod.snd (Prod.snd (Prod.snd (Prod.snd (Prod.snd (Prod.snd (Prod.snd (Prod.snd x1))))))))))) : Int)) = Bool.true, ((↑(List.length (Prod.fst (Prod.snd (Prod.snd (Prod.snd (Prod.snd (Prod.snd (Prod.snd (Prod.snd (Prod.snd (Prod.snd (Prod.snd x0)))))))))))) : Int) == (↑(List.length (Prod.fst (Prod.snd (Prod.snd (Prod.snd (Prod.snd (Prod.snd (Prod.snd (Prod.snd (Prod.snd (Prod.snd (Prod.snd x1)))))))))))) : Int)) = Bool.true]) := by kernel_rfl
theorem p17_1 (x0 : TyA0) (x1 : TyA0) : runF tab ext17 false 107 [] 2000 [] oks17 kds17 tys17 Try.f17.results [true, true, true, true, true, true, false] [.code b17] (entE 0 0 sig17 (x0, x1, ())) (entL sig17 (x0, x1, ())) = some ([Dyn.mk Ty.bool Bool.false], [], [((↑(List.length (Prod.fst x0)) : Int) == (↑(List.length (Prod.fst x1)) : Int)) = Bool.true, ((↑(List.length (Prod.fst (Prod.snd (Prod.snd x0)))) : Int) == (↑(List.length (Prod.fst (Prod.snd (Prod.snd x1)))) : Int)) = Bool.true, ((↑(List.length (Prod.fst (Prod.snd (Prod.snd (Prod.snd x0))))) : Int) == (↑(List.length (Prod.fst (Prod.snd (Prod.snd (Prod.snd x1))))) : Int)) = Bool.true, ((↑(List.length (Prod.fst (Prod.snd (Prod.snd (Prod.snd (Prod.snd (Prod.snd (Prod.snd x0)))))))) : Int) == (↑(List.length (Prod.fst (Prod.snd (Prod.snd (Prod.snd (Prod.snd (Prod.snd (Prod.snd x1)))))))) : Int)) = Bool.true, ((↑(List.length (Prod.fst (Prod.snd (Prod.snd (Prod.snd (Prod.snd (Prod.snd (Prod.snd (Prod.snd (Prod.snd x0)))))))))) : Int) == (↑(List.length (Prod.fst (Prod.snd (Prod.snd (Prod.snd (Prod.snd (Prod.snd (Prod.snd (Prod.snd (Prod.snd x1)))))))))) : Int)) = Bool.true, ((↑(List.length (Prod.fst (Prod.snd (Prod.snd (Prod.snd (Prod.snd (Prod.snd (Prod.snd (Prod.snd (Prod.snd (Prod.snd x0))))))))))) : Int) == (↑(List.length (Prod.fst (Prod.snd (Prod.snd (Prod.snd (Prod.snd (Prod.snd (Prod.snd (Prod.snd (Prod.snd (Prod.snd x1))))))))))) : Int)) = Bool.true, ((↑(List.length (Prod.fst (Prod.snd (Prod.snd (Prod.snd (Prod.snd (Prod.snd (Prod.snd (Prod.snd (Prod.snd (Prod.snd (Prod.snd x0)))))))))))) : Int) == (↑(List.length (Prod.fst (Prod.snd (Prod.snd (Prod.snd (Prod.snd (Prod.snd (Prod.snd (Prod.snd (Prod.snd (Prod.snd (Prod.snd x1)))))))))))) : Int)) = Bool.false]) := by kernel_rfl
theorem p17_2 (x0 : TyA0) (x1 : TyA0) : runF tab ext17 false 107 [] 2000 [] oks17 kds17 tys17 Try.f17.results [true, true, true, true, true, false, false] [.code b17] (entE 0 0 sig17 (x0, x1, ())) (entL sig17 (x0, x1, ())) = some ([Dyn.mk Ty.bool Bool.false], [], [((↑(List.length (Prod.fst x0)) : Int) == (↑(List.length (Prod.fst x1)) : Int)) = Bool.true, ((↑(List.length (Prod.fst (Prod.snd (Prod.snd x0)))) : Int) == (↑(List.length (Prod.fst (Prod.snd (Prod.snd x1)))) : Int)) = Bool.true, ((↑(List.length (Prod.fst (Prod.snd (Prod.snd (Prod.snd x0))))) : Int) == (↑(List.length (Prod.fst (Prod.snd (Prod.snd (Prod.snd x1))))) : Int)) = Bool.true, ((↑(List.length (Prod.fst (Prod.snd (Prod.snd (Prod.snd (Prod.snd (Prod.snd (Prod.snd x0)))))))) : Int) == (↑(List.length (Prod.fst (Prod.snd (Prod.snd (Prod.snd (Prod.snd (Prod.snd (Prod.snd x1)))))))) : Int)) = Bool.true, ((↑(List.length (Prod.fst (Prod.snd (Prod.snd (Prod.snd (Prod.snd (Prod.snd (Prod.snd (Prod.snd (Prod.snd x0)))))))))) : Int) == (↑(List.length (Prod.fst (Prod.snd (Prod.snd (Prod.snd (Prod.snd (Prod.snd (Prod.snd (Prod.snd (Prod.snd x1)))))))))) : Int)) = Bool.true, ((↑(List.length (Prod.fst (Prod.snd (Prod.snd (Prod.snd (Prod.snd (Prod.snd (Prod.snd (Prod.snd (Prod.snd (Prod.snd x0))))))))))) : Int) == (↑(List.length (Prod.fst (Prod.snd (Prod.snd (Prod.snd (Prod.snd (Prod.snd (Prod.snd (Prod.snd (Prod.snd (Prod.snd x1))))))))))) : Int)) = Bool.false, Bool.false = Bool.false]) := by kernel_rfl
theorem p17_3 (x0 : TyA0) (x1 : TyA0) : runF tab ext17 false 107 [] 2000 [] oks17 kds17 tys17 Try.f17.results [true, true, true, true, false, false, false] [.code b17] (entE 0 0 sig17 (x0, x1, ())) (entL sig17 (x0, x1, ())) = some ([Dyn.mk Ty.bool Bool.false], [], [((↑(List.length (Prod.fst x0)) : Int) == (↑(List.length (Prod.fst x1)) : Int)) = Bool.true, ((↑(List.length (Prod.fst (Prod.snd (Prod.snd x0)))) : Int) == (↑(List.length (Prod.fst (Prod.snd (Prod.snd x1)))) : Int)) = Bool.true, ((↑(List.length (Prod.fst (Prod.snd (Prod.snd (Prod.snd x0))))) : Int) == (↑(List.length (Prod.fst (Prod.snd (Prod.snd (Prod.snd x1))))) : Int)) = Bool.true, ((↑(List.length (Prod.fst (Prod.snd (Prod.snd (Prod.snd (Prod.snd (Prod.snd (Prod.snd x0)))))))) : Int) == (↑(List.length (Prod.fst (Prod.snd (Prod.snd (Prod.snd (Prod.snd (Prod.snd (Prod.snd x1)))))))) : Int)) = Bool.true, ((↑(List.length (Prod.fst (Prod.snd (Prod.snd (Prod.snd (Prod.snd (Prod.snd (Prod.snd (Prod.snd (Prod.snd x0)))))))))) : Int) == (↑(List.length (Prod.fst (Prod.snd (Prod.snd (Prod.snd (Prod.snd (Prod.snd (Prod.snd (Prod.snd (Prod.snd x1)))))))))) : Int)) = Bool.false, Bool.false = Bool.false, Bool.false = Bool.false]) := by kernel_rfl
theorem p17_4 (x0 : TyA0) (x1 : TyA0) : runF tab ext17 false 107 [] 2000 [] oks17 kds17 tys17 Try.f17.results [true, true, true, false, false, false, false] [.code b17] (entE 0 0 sig17 (x0, x1, ())) (entL sig17 (x0, x1, ())) = some ([Dyn.mk Ty.bool Bool.false], [], [((↑(List.length (Prod.fst x0)) : Int) == (↑(List.length (Prod.fst x1)) : Int)) = Bool.true, ((↑(List.length (Prod.fst (Prod.snd (Prod.snd x0)))) : Int) == (↑(List.length (Prod.fst (Prod.snd (Prod.snd x1)))) : Int)) = Bool.true, ((↑(List.length (Prod.fst (Prod.snd (Prod.snd (Prod.snd x0))))) : Int) == (↑(List.length (Prod.fst (Prod.snd (Prod.snd (Prod.snd x1))))) : Int)) = Bool.true, ((↑(List.length (Prod.fst (Prod.snd (Prod.snd (Prod.snd (Prod.snd (Prod.snd (Prod.snd x0)))))))) : Int) == (↑(List.length (Prod.fst (Prod.snd (Prod.snd (Prod.snd (Prod.snd (Prod.snd (Prod.snd x1)))))))) : Int)) = Bool.false, Bool.false = Bool.false, Bool.false = Bool.false, Bool.false = Bool.false]) := by kernel_rfl
theorem p17_5 (x0 : TyA0) (x1 : TyA0) : runF tab ext17 false 107 [] 2000 [] oks17 kds17 tys17 Try.f17.results [true, true, false, false, false, false, false] [.code b17] (entE 0 0 sig17 (x0, x1, ())) (entL sig17 (x0, x1, ())) = some ([Dyn.mk Ty.bool Bool.false], [], [((↑(List.length (Prod.fst x0)) : Int) == (↑(List.length (Prod.fst x1)) : Int)) = Bool.true, ((↑(List.length (Prod.fst (Prod.snd (Prod.snd x0)))) : Int) == (↑(List.length (Prod.fst (Prod.snd (Prod.snd x1)))) : Int)) = Bool.true, ((↑(List.length (Prod.fst (Prod.snd (Prod.snd (Prod.snd x0))))) : Int) == (↑(List.length (Prod.fst (Prod.snd (Prod.snd (Prod.snd x1))))) : Int)) = Bool.false, Bool.false = Bool.false, Bool.false = Bool.false, Bool.false = Bool.false, Bool.false = Bool.false]) := by kernel_rfl
theorem p17_6 (x0 : TyA0) (x1 : TyA0) : runF tab ext17 false 107 [] 2000 [] oks17 kds17 tys17 Try.f17.results [true, false, false, false, false, false, false] [.code b17] (entE 0 0 sig17 (x0, x1, ())) (entL sig17 (x0, x1, ())) = some ([Dyn.mk Ty.bool Bool.false], [], [((↑(List.length (Prod.fst x0)) : Int) == (↑(List.length (Prod.fst x1)) : Int)) = Bool.true, ((↑(List.length (Prod.fst (Prod.snd (Prod.snd x0)))) : Int) == (↑(List.length (Prod.fst (Prod.snd (Prod.snd x1)))) : Int)) = Bool.false, Bool.false = Bool.false, Bool.false = Bool.false, Bool.false = Bool.false, Bool.false = Bool.false, Bool.false = Bool.false]) := by kernel_rfl
theorem p17_7 (x0 : TyA0) (x1 : TyA0) : runF tab ext17 false 107 [] 2000 [] oks17 kds17 tys17 Try.f17.results [false, false, false, false, false, false, false] [.code b17] (entE 0 0 sig17 (x0, x1, ())) (entL sig17 (x0, x1, ())) = some ([Dyn.mk Ty.bool Bool.false], [], [((↑(List.length (Prod.fst x0)) : Int) == (↑(List.length (Prod.fst x1)) : Int)) = Bool.false, Bool.false = Bool.false, Bool.false = Bool.false, Bool.false = Bool.false, Bool.false = Bool.false, Bool.false = Bool.false, Bool.false = Bool.false]) := by kernel_rfl
theorem at17 (x0 : TyA0) (x1 : TyA0) (h : P17 x0 x1) (K : Ctx) (q : Nat → Value) : AtV Try.prog 17 (PostR kds17 oks17 [⟨Ty.bool, g17_0 x0 x1⟩] [] [] q K) 107 K q [] [.code b17] (entE 0 0 sig17 (x0, x1, ())) (entL sig17 (x0, x1, ())) := by
  unfold P17 at h
  unfold g17_0
  by_cases b0 : ((↑(List.length (Prod.fst x0)) : Int) == (↑(List.length (Prod.fst x1)) : Int)) = true
  · try simp only [if_pos b0] at h ⊢
    by_cases b1 : ((↑(List.length (Prod.fst (Prod.snd (Prod.snd x0)))) : Int) == (↑(List.length (Prod.fst (Prod.snd (Prod.snd x1)))) : Int)) = true
    · try simp only [if_pos b1] at h ⊢
      by_cases b2 : ((↑(List.length (Prod.fst (Prod.snd (Prod.snd (Prod.snd x0))))) : Int) == (↑(List.length (Prod.fst (Prod.snd (Prod.snd (Prod.snd x1))))) : Int)) = true
      · try simp only [if_pos b2] at h ⊢
        by_cases b3 : ((↑(List.length (Prod.fst (Prod.snd (Prod.snd (Prod.snd (Prod.snd (Prod.snd (Prod.snd x0)))))))) : Int) == (↑(List.length (Prod.fst (Prod.snd (Prod.snd (Prod.snd (Prod.snd (Prod.snd (Prod.snd x1)))))))) : Int)) = true
        · try simp only [if_pos b3] at h ⊢
          by_cases b4 : ((↑(List.length (Prod.fst (Prod.snd (Prod.snd (Prod.snd (Prod.snd (Prod.snd (Prod.snd (Prod.snd (Prod.snd x0)))))))))) : Int) == (↑(List.length (Prod.fst (Prod.snd (Prod.snd (Prod.snd (Prod.snd (Prod.snd (Prod.snd (Prod.snd (Prod.snd x1)))))))))) : Int)) = true
          · try simp only [if_pos b4] at h ⊢
            by_cases b5 : ((↑(List.length (Prod.fst (Prod.snd (Prod.snd (Prod.snd (Prod.snd (Prod.snd (Prod.snd (Prod.snd (Prod.snd (Prod.snd x0))))))))))) : Int) == (↑(List.length (Prod.fst (Prod.snd (Prod.snd (Prod.snd (Prod.snd (Prod.snd (Prod.snd (Prod.snd (Prod.snd (Prod.snd x1))))))))))) : Int)) = true
            · try simp only [if_pos b5] at h ⊢
              by_cases b6 : ((↑(List.length (Prod.fst (Prod.snd (Prod.snd (Prod.snd (Prod.snd (Prod.snd (Prod.snd (Prod.snd (Prod.snd (Prod.snd (Prod.snd x0)))))))))))) : Int) == (↑(List.length (Prod.fst (Prod.snd (Prod.snd (Prod.snd (Prod.snd (Prod.snd (Prod.snd (Prod.snd (Prod.snd (Prod.snd (Prod.snd x1)))))))))))) : Int)) = true
              · try simp only [if_pos b6] at h ⊢
                exact AtV.fin Try.func17 tabOk ext17Ok mixed (p17_0 x0 x1) ⟨b0, b1, b2, b3, b4, b5, b6, trivial⟩
              · try simp only [if_neg b6] at h ⊢
                replace b6 := Bool.eq_false_iff.2 b6
                exact AtV.fin Try.func17 tabOk ext17Ok mixed (p17_1 x0 x1) ⟨b0, b1, b2, b3, b4, b5, b6, trivial⟩
            · try simp only [if_neg b5] at h ⊢
              replace b5 := Bool.eq_false_iff.2 b5
              exact AtV.fin Try.func17 tabOk ext17Ok mixed (p17_2 x0 x1) ⟨b0, b1, b2, b3, b4, b5, rfl, trivial⟩
          · try simp only [if_neg b4] at h ⊢
            replace b4 := Bool.eq_false_iff.2 b4
            exact AtV.fin Try.func17 tabOk ext17Ok mixed (p17_3 x0 x1) ⟨b0, b1, b2, b3, b4, rfl, rfl, trivial⟩
        · try simp only [if_neg b3] at h ⊢
          replace b3 := Bool.eq_false_iff.2 b3
          exact AtV.fin Try.func17 tabOk ext17Ok mixed (p17_4 x0 x1) ⟨b0, b1, b2, b3, rfl, rfl, rfl, trivial⟩
      · try simp only [if_neg b2] at h ⊢
        replace b2 := Bool.eq_false_iff.2 b2
        exact AtV.fin Try.func17 tabOk ext17Ok mixed (p17_5 x0 x1) ⟨b0, b1, b2, rfl, rfl, rfl, rfl, trivial⟩
    · try simp only [if_neg b1] at h ⊢
      replace b1 := Bool.eq_false_iff.2 b1
      exact AtV.fin Try.func17 tabOk ext17Ok mixed (p17_6 x0 x1) ⟨b0, b1, rfl, rfl, rfl, rfl, rfl, trivial⟩
  · try simp only [if_neg b0] at h ⊢
    replace b0 := Bool.eq_false_iff.2 b0
    exact AtV.fin Try.func17 tabOk ext17Ok mixed (p17_7 x0 x1) ⟨b0, rfl, rfl, rfl, rfl, rfl, rfl, trivial⟩

def S17 : Am.Spec := { sig := sig17, pre := fun ⟨x0, x1, _⟩ => P17 x0 x1, res := fun ⟨x0, x1, _⟩ => [⟨Ty.bool, g17_0 x0 x1⟩], kds := kds17 }
theorem con17 : Contract Try.prog 17 S17 := contract_of Try.func17 hb17 (Nat.le_of_ble_eq_true (by kernel_rfl)) (fun ⟨x0, x1, _⟩ h _ K q => at17 x0 x1 h K q)


end Go.Proofs.Ytpcfcplggpchjaa

/- Function 5 (spec.SameDesk): its runs between cut points. Written by a program of this repo (gen). -/
set_option linter.unusedVariables false
set_option linter.unusedSimpArgs false
set_option maxRecDepth 100000
namespace Go.Proofs.Ytpcfcplggpchjaa
open Go Go.Am Go.Proofs
def ext5 : Ext := [(17, S17)]
theorem call5_17 : Callable Try.prog 17 := ⟨Try.f17, Try.func17, by kernel_rfl, by kernel_rfl⟩
theorem ext5Ok : ExtOk Try.prog ext5 := ⟨⟨call5_17, con17⟩, trivial⟩

noncomputable def b5 : Code := bodyOf Try.f5
theorem hb5 : Try.f5.body = some b5 := by kernel_rfl
def sig5 : List AT := [AT.v (Ty.cons (Ty.sl (Ty.cons Ty.str (Ty.cons (Ty.int IntKind.i64) (Ty.cons (Ty.int IntKind.i64) (Ty.cons (Ty.int IntKind.i64) Ty.unit))))) (Ty.cons (Ty.cons (Ty.int IntKind.i64) (Ty.cons (Ty.int IntKind.i64) (Ty.cons (Ty.int IntKind.i64) (Ty.cons (Ty.int IntKind.i64) Ty.unit)))) (Ty.cons (Ty.sl (Ty.cons (Ty.int IntKind.i64) (Ty.cons (Ty.int IntKind.i64) (Ty.cons (Ty.int IntKind.i64) Ty.unit)))) (Ty.cons (Ty.sl (Ty.cons (Ty.int IntKind.i64) (Ty.cons (Ty.int IntKind.i64) (Ty.cons (Ty.int IntKind.i64) Ty.unit)))) (Ty.cons (Ty.cons (Ty.int IntKind.i64) (Ty.cons (Ty.int IntKind.i64) (Ty.cons (Ty.int IntKind.i64) Ty.unit))) (Ty.cons (Ty.cons (Ty.int IntKind.i64) (Ty.cons (Ty.int IntKind.i64) (Ty.cons (Ty.int IntKind.i64) Ty.unit))) (Ty.cons (Ty.sl (Ty.cons Ty.str (Ty.cons (Ty.int IntKind.i64) (Ty.cons (Ty.int IntKind.i64) Ty.unit)))) (Ty.cons (Ty.cons (Ty.int IntKind.i64) (Ty.cons (Ty.int IntKind.i64) (Ty.cons (Ty.int IntKind.i64) (Ty.cons (Ty.int IntKind.i64) Ty.unit)))) (Ty.cons (Ty.sl (Ty.cons Ty.str (Ty.cons (Ty.int IntKind.i64) (Ty.cons (Ty.int IntKind.i64) (Ty.cons (Ty.int IntKind.i64) Ty.unit))))) (Ty.cons (Ty.sl (Ty.cons (Ty.int IntKind.i64) (Ty.cons (Ty.int IntKind.i64) (Ty.cons (Ty.int IntKind.i64) Ty.unit)))) (Ty.cons (Ty.sl (Ty.cons Ty.str (Ty.cons (Ty.int IntKind.i64) (Ty.cons (Ty.int IntKind.i64) Ty.unit)))) (Ty.cons (Ty.sl (Ty.cons Ty.str (Ty.cons (Ty.int IntKind.i64) (Ty.cons (Ty.int IntKind.i64) Ty.unit)))) Ty.unit)))))))))))), AT.v (Ty.cons (Ty.sl (Ty.cons Ty.str (Ty.cons (Ty.int IntKind.i64) (Ty.cons (Ty.int IntKind.i64) (Ty.cons (Ty.int IntKind.i64) Ty.unit))))) (Ty.cons (Ty.cons (Ty.int IntKind.i64) (Ty.cons (Ty.int IntKind.i64) (Ty.cons (Ty.int IntKind.i64) (Ty.cons (Ty.int IntKind.i64) Ty.unit)))) (Ty.cons (Ty.sl (Ty.cons (Ty.int IntKind.i64) (Ty.cons (Ty.int IntKind.i64) (Ty.cons (Ty.int IntKind.i64) Ty.unit)))) (Ty.cons (Ty.sl (Ty.cons (Ty.int IntKind.i64) (Ty.cons (Ty.int IntKind.i64) (Ty.cons (Ty.int IntKind.i64) Ty.unit)))) (Ty.cons (Ty.cons (Ty.int IntKind.i64) (Ty.cons (Ty.int IntKind.i64) (Ty.cons (Ty.int IntKind.i64) Ty.unit))) (Ty.cons (Ty.cons (Ty.int IntKind.i64) (Ty.cons (Ty.int IntKind.i64) (Ty.cons (Ty.int IntKind.i64) Ty.unit))) (Ty.cons (Ty.sl (Ty.cons Ty.str (Ty.cons (Ty.int IntKind.i64) (Ty.cons (Ty.int IntKind.i64) Ty.unit)))) (Ty.cons (Ty.cons (Ty.int IntKind.i64) (Ty.cons (Ty.int IntKind.i64) (Ty.cons (Ty.int IntKind.i64) (Ty.cons (Ty.int IntKind.i64) Ty.unit)))) (Ty.cons (Ty.sl (Ty.cons Ty.str (Ty.cons (Ty.int IntKind.i64) (Ty.cons (Ty.int IntKind.i64) (Ty.cons (Ty.int IntKind.i64) Ty.unit))))) (Ty.cons (Ty.sl (Ty.cons (Ty.int IntKind.i64) (Ty.cons (Ty.int IntKind.i64) (Ty.cons (Ty.int IntKind.i64) Ty.unit)))) (Ty.cons (Ty.sl (Ty.cons Ty.str (Ty.cons (Ty.int IntKind.i64) (Ty.cons (Ty.int IntKind.i64) Ty.unit)))) (Ty.cons (Ty.sl (Ty.cons Ty.str (Ty.cons (Ty.int IntKind.i64) (Ty.cons (Ty.int IntKind.i64) Ty.unit)))) Ty.unit))))))))))))]
def tys5 : List Ty := [Ty.bool]
def kds5 : List RK := []
def oks5 : List AT := owns sig5
def E5_4 (v5 : Int) (x0 : TyA0) (x1 : TyA0) : Env := [(2, PV.a (Atom.optr 0 0 [])), (3, PV.a (Atom.optr 1 0 [])), (5, PV.a (Atom.val (Value.int IntKind.i64 v5)))]
def L5_4 (v5 : Int) (x0 : TyA0) (x1 : TyA0) : Heap := [Option.some (Arr.mk (Ty.cons (Ty.sl (Ty.cons Ty.str (Ty.cons (Ty.int IntKind.i64) (Ty.cons (Ty.int IntKind.i64) (Ty.cons (Ty.int IntKind.i64) Ty.unit))))) (Ty.cons (Ty.cons (Ty.int IntKind.i64) (Ty.cons (Ty.int IntKind.i64) (Ty.cons (Ty.int IntKind.i64) (Ty.cons (Ty.int IntKind.i64) Ty.unit)))) (Ty.cons (Ty.sl (Ty.cons (Ty.int IntKind.i64) (Ty.cons (Ty.int IntKind.i64) (Ty.cons (Ty.int IntKind.i64) Ty.unit)))) (Ty.cons (Ty.sl (Ty.cons (Ty.int IntKind.i64) (Ty.cons (Ty.int IntKind.i64) (Ty.cons (Ty.int IntKind.i64) Ty.unit)))) (Ty.cons (Ty.cons (Ty.int IntKind.i64) (Ty.cons (Ty.int IntKind.i64) (Ty.cons (Ty.int IntKind.i64) Ty.unit))) (Ty.cons (Ty.cons (Ty.int IntKind.i64) (Ty.cons (Ty.int IntKind.i64) (Ty.cons (Ty.int IntKind.i64) Ty.unit))) (Ty.cons (Ty.sl (Ty.cons Ty.str (Ty.cons (Ty.int IntKind.i64) (Ty.cons (Ty.int IntKind.i64) Ty.unit)))) (Ty.cons (Ty.cons (Ty.int IntKind.i64) (Ty.cons (Ty.int IntKind.i64) (Ty.cons (Ty.int IntKind.i64) (Ty.cons (Ty.int IntKind.i64) Ty.unit)))) (Ty.cons (Ty.sl (Ty.cons Ty.str (Ty.cons (Ty.int IntKind.i64) (Ty.cons (Ty.int IntKind.i64) (Ty.cons (Ty.int IntKind.i64) Ty.unit))))) (Ty.cons (Ty.sl (Ty.cons (Ty.int IntKind.i64) (Ty.cons (Ty.int IntKind.i64) (Ty.cons (Ty.int IntKind.i64) Ty.unit)))) (Ty.cons (Ty.sl (Ty.cons Ty.str (Ty.cons (Ty.int IntKind.i64) (Ty.cons (Ty.int IntKind.i64) Ty.unit)))) (Ty.cons (Ty.sl (Ty.cons Ty.str (Ty.cons (Ty.int IntKind.i64) (Ty.cons (Ty.int IntKind.i64) Ty.unit)))) Ty.unit)))))))))))) [x0] Bool.true Option.none (Option.some Bool.false)), Option.some (Arr.mk (Ty.cons (Ty.sl (Ty.cons Ty.str (Ty.cons (Ty.int IntKind.i64) (Ty.cons (Ty.int IntKind.i64) (Ty.cons (Ty.int IntKind.i64) Ty.unit))))) (Ty.cons (Ty.cons (Ty.int IntKind.i64) (Ty.cons (Ty.int IntKind.i64) (Ty.cons (Ty.int IntKind.i64) (Ty.cons (Ty.int IntKind.i64) Ty.unit)))) (Ty.cons (Ty.sl (Ty.cons (Ty.int IntKind.i64) (Ty.cons (Ty.int IntKind.i64) (Ty.cons (Ty.int IntKind.i64) Ty.unit)))) (Ty.cons (Ty.sl (Ty.cons (Ty.int IntKind.i64) (Ty.cons (Ty.int IntKind.i64) (Ty.cons (Ty.int IntKind.i64) Ty.unit)))) (Ty.cons (Ty.cons (Ty.int IntKind.i64) (Ty.cons (Ty.int IntKind.i64) (Ty.cons (Ty.int IntKind.i64) Ty.unit))) (Ty.cons (Ty.cons (Ty.int IntKind.i64) (Ty.cons (Ty.int IntKind.i64) (Ty.cons (Ty.int IntKind.i64) Ty.unit))) (Ty.cons (Ty.sl (Ty.cons Ty.str (Ty.cons (Ty.int IntKind.i64) (Ty.cons (Ty.int IntKind.i64) Ty.unit)))) (Ty.cons (Ty.cons (Ty.int IntKind.i64) (Ty.cons (Ty.int IntKind.i64) (Ty.cons (Ty.int IntKind.i64) (Ty.cons (Ty.int IntKind.i64) Ty.unit)))) (Ty.cons (Ty.sl (Ty.cons Ty.str (Ty.cons (Ty.int IntKind.i64) (Ty.cons (Ty.int IntKind.i64) (Ty.cons (Ty.int IntKind.i64) Ty.unit))))) (Ty.cons (Ty.sl (Ty.cons (Ty.int IntKind.i64) (Ty.cons (Ty.int IntKind.i64) (Ty.cons (Ty.int IntKind.i64) Ty.unit)))) (Ty.cons (Ty.sl (Ty.cons Ty.str (Ty.cons (Ty.int IntKind.i64) (Ty.cons (Ty.int IntKind.i64) Ty.unit)))) (Ty.cons (Ty.sl (Ty.cons Ty.str (Ty.cons (Ty.int IntKind.i64) (Ty.cons (Ty.int IntKind.i64) Ty.unit)))) Ty.unit)))))))))))) [x1] Bool.true Option.none (Option.some Bool.false))]
def E5_9 (v6 : Int) (x0 : TyA0) (x1 : TyA0) : Env := [(2, PV.a (Atom.optr 0 0 [])), (3, PV.a (Atom.optr 1 0 [])), (6, PV.a (Atom.val (Value.int IntKind.i64 v6)))]
def L5_9 (v6 : Int) (x0 : TyA0) (x1 : TyA0) : Heap := [Option.some (Arr.mk (Ty.cons (Ty.sl (Ty.cons Ty.str (Ty.cons (Ty.int IntKind.i64) (Ty.cons (Ty.int IntKind.i64) (Ty.cons (Ty.int IntKind.i64) Ty.unit))))) (Ty.cons (Ty.cons (Ty.int IntKind.i64) (Ty.cons (Ty.int IntKind.i64) (Ty.cons (Ty.int IntKind.i64) (Ty.cons (Ty.int IntKind.i64) Ty.unit)))) (Ty.cons (Ty.sl (Ty.cons (Ty.int IntKind.i64) (Ty.cons (Ty.int IntKind.i64) (Ty.cons (Ty.int IntKind.i64) Ty.unit)))) (Ty.cons (Ty.sl (Ty.cons (Ty.int IntKind.i64) (Ty.cons (Ty.int IntKind.i64) (Ty.cons (Ty.int IntKind.i64) Ty.unit)))) (Ty.cons (Ty.cons (Ty.int IntKind.i64) (Ty.cons (Ty.int IntKind.i64) (Ty.cons (Ty.int IntKind.i64) Ty.unit))) (Ty.cons (Ty.cons (Ty.int IntKind.i64) (Ty.cons (Ty.int IntKind.i64) (Ty.cons (Ty.int IntKind.i64) Ty.unit))) (Ty.cons (Ty.sl (Ty.cons Ty.str (Ty.cons (Ty.int IntKind.i64) (Ty.cons (Ty.int IntKind.i64) Ty.unit)))) (Ty.cons (Ty.cons (Ty.int IntKind.i64) (Ty.cons (Ty.int IntKind.i64) (Ty.cons (Ty.int IntKind.i64) (Ty.cons (Ty.int IntKind.i64) Ty.unit)))) (Ty.cons (Ty.sl (Ty.cons Ty.str (Ty.cons (Ty.int IntKind.i64) (Ty.cons (Ty.int IntKind.i64) (Ty.cons (Ty.int IntKind.i64) Ty.unit))))) (Ty.cons (Ty.sl (Ty.cons (Ty.int IntKind.i64) (Ty.cons (Ty.int IntKind.i64) (Ty.cons (Ty.int IntKind.i64) Ty.unit)))) (Ty.cons (Ty.sl (Ty.cons Ty.str (Ty.cons (Ty.int IntKind.i64) (Ty.cons (Ty.int IntKind.i64) Ty.unit)))) (Ty.cons (Ty.sl (Ty.cons Ty.str (Ty.cons (Ty.int IntKind.i64) (Ty.cons (Ty.int IntKind.i64) Ty.unit)))) Ty.unit)))))))))))) [x0] Bool.true Option.none (Option.some Bool.false)), Option.some (Arr.mk (Ty.cons (Ty.sl (Ty.cons Ty.str (Ty.cons (Ty.int IntKind.i64) (Ty.cons (Ty.int IntKind.i64) (Ty.cons (Ty.int IntKind.i64) Ty.unit))))) (Ty.cons (Ty.cons (Ty.int IntKind.i64) (Ty.cons (Ty.int IntKind.i64) (Ty.cons (Ty.int IntKind.i64) (Ty.cons (Ty.int IntKind.i64) Ty.unit)))) (Ty.cons (Ty.sl (Ty.cons (Ty.int IntKind.i64) (Ty.cons (Ty.int IntKind.i64) (Ty.cons (Ty.int IntKind.i64) Ty.unit)))) (Ty.cons (Ty.sl (Ty.cons (Ty.int IntKind.i64) (Ty.cons (Ty.int IntKind.i64) (Ty.cons (Ty.int IntKind.i64) Ty.unit)))) (Ty.cons (Ty.cons (Ty.int IntKind.i64) (Ty.cons (Ty.int IntKind.i64) (Ty.cons (Ty.int IntKind.i64) Ty.unit))) (Ty.cons (Ty.cons (Ty.int IntKind.i64) (Ty.cons (Ty.int IntKind.i64) (Ty.cons (Ty.int IntKind.i64) Ty.unit))) (Ty.cons (Ty.sl (Ty.cons Ty.str (Ty.cons (Ty.int IntKind.i64) (Ty.cons (Ty.int IntKind.i64) Ty.unit)))) (Ty.cons (Ty.cons (Ty.int IntKind.i64) (Ty.cons (Ty.int IntKind.i64) (Ty.cons (Ty.int IntKind.i64) (Ty.cons (Ty.int IntKind.i64) Ty.unit)))) (Ty.cons (Ty.sl (Ty.cons Ty.str (Ty.cons (Ty.int IntKind.i64) (Ty.cons (Ty.int IntKind.i64) (Ty.cons (Ty.int IntKind.i64) Ty.unit))))) (Ty.cons (Ty.sl (Ty.cons (Ty.int IntKind.i64) (Ty.cons (Ty.int IntKind.i64) (Ty.cons (Ty.int IntKind.i64) Ty.unit)))) (Ty.cons (Ty.sl (Ty.cons Ty.str (Ty.cons (Ty.int IntKind.i64) (Ty.cons (Ty.int IntKind.i64) Ty.unit)))) (Ty.cons (Ty.sl (Ty.cons Ty.str (Ty.cons (Ty.int IntKind.i64) (Ty.cons (Ty.int IntKind.i64) Ty.unit)))) Ty.unit)))))))))))) [x1] Bool.true Option.none (Option.some Bool.false))]
def E5_14 (v7 : Int) (x0 : TyA0) (x1 : TyA0) : Env := [(2, PV.a (Atom.optr 0 0 [])), (3, PV.a (Atom.optr 1 0 [])), (7, PV.a (Atom.val (Value.int IntKind.i64 v7)))]
def L5_14 (v7 : Int) (x0 : TyA0) (x1 : TyA0) : Heap := [Option.some (Arr.mk (Ty.cons (Ty.sl (Ty.cons Ty.str (Ty.cons (Ty.int IntKind.i64) (Ty.cons (Ty.int IntKind.i64) (Ty.cons (Ty.int IntKind.i64) Ty.unit))))) (Ty.cons (Ty.cons (Ty.int IntKind.i64) (Ty.cons (Ty.int IntKind.i64) (Ty.cons (Ty.int IntKind.i64) (Ty.cons (Ty.int IntKind.i64) Ty.unit)))) (Ty.cons (Ty.sl (Ty.cons (Ty.int IntKind.i64) (Ty.cons (Ty.int IntKind.i64) (Ty.cons (Ty.int IntKind.i64) Ty.unit)))) (Ty.cons (Ty.sl (Ty.cons (Ty.int IntKind.i64) (Ty.cons (Ty.int IntKind.i64) (Ty.cons (Ty.int IntKind.i64) Ty.unit)))) (Ty.cons (Ty.cons (Ty.int IntKind.i64) (Ty.cons (Ty.int IntKind.i64) (Ty.cons (Ty.int IntKind.i64) Ty.unit))) (Ty.cons (Ty.cons (Ty.int IntKind.i64) (Ty.cons (Ty.int IntKind.i64) (Ty.cons (Ty.int IntKind.i64) Ty.unit))) (Ty.cons (Ty.sl (Ty.cons Ty.str (Ty.cons (Ty.int IntKind.i64) (Ty.cons (Ty.int IntKind.i64) Ty.unit)))) (Ty.cons (Ty.cons (Ty.int IntKind.i64) (Ty.cons (Ty.int IntKind.i64) (Ty.cons (Ty.int IntKind.i64) (Ty.cons (Ty.int IntKind.i64) Ty.unit)))) (Ty.cons (Ty.sl (Ty.cons Ty.str (Ty.cons (Ty.int IntKind.i64) (Ty.cons (Ty.int IntKind.i64) (Ty.cons (Ty.int IntKind.i64) Ty.unit))))) (Ty.cons (Ty.sl (Ty.cons (Ty.int IntKind.i64) (Ty.cons (Ty.int IntKind.i64) (Ty.cons (Ty.int IntKind.i64) Ty.unit)))) (Ty.cons (Ty.sl (Ty.cons Ty.str (Ty.cons (Ty.int IntKind.i64) (Ty.cons (Ty.int IntKind.i64) Ty.unit)))) (Ty.cons (Ty.sl (Ty.cons Ty.str (Ty.cons (Ty.int IntKind.i64) (Ty.cons (Ty.int IntKind.i64) Ty.unit)))) Ty.unit)))))))))))) [x0] Bool.true Option.none (Option.some Bool.false)), Option.some (Arr.mk (Ty.cons (Ty.sl (Ty.cons Ty.str (Ty.cons (Ty.int IntKind.i64) (Ty.cons (Ty.int IntKind.i64) (Ty.cons (Ty.int IntKind.i64) Ty.unit))))) (Ty.cons (Ty.cons (Ty.int IntKind.i64) (Ty.cons (Ty.int IntKind.i64) (Ty.cons (Ty.int IntKind.i64) (Ty.cons (Ty.int IntKind.i64) Ty.unit)))) (Ty.cons (Ty.sl (Ty.cons (Ty.int IntKind.i64) (Ty.cons (Ty.int IntKind.i64) (Ty.cons (Ty.int IntKind.i64) Ty.unit)))) (Ty.cons (Ty.sl (Ty.cons (Ty.int IntKind.i64) (Ty.cons (Ty.int IntKind.i64) (Ty.cons (Ty.int IntKind.i64) Ty.unit)))) (Ty.cons (Ty.cons (Ty.int IntKind.i64) (Ty.cons (Ty.int IntKind.i64) (Ty.cons (Ty.int IntKind.i64) Ty.unit))) (Ty.cons (Ty.cons (Ty.int IntKind.i64) (Ty.cons (Ty.int IntKind.i64) (Ty.cons (Ty.int IntKind.i64) Ty.unit))) (Ty.cons (Ty.sl (Ty.cons Ty.str (Ty.cons (Ty.int IntKind.i64) (Ty.cons (Ty.int IntKind.i64) Ty.unit)))) (Ty.cons (Ty.cons (Ty.int IntKind.i64) (Ty.cons (Ty.int IntKind.i64) (Ty.cons (Ty.int IntKind.i64) (Ty.cons (Ty.int IntKind.i64) Ty.unit)))) (Ty.cons (Ty.sl (Ty.cons Ty.str (Ty.cons (Ty.int IntKind.i64) (Ty.cons (Ty.int IntKind.i64) (Ty.cons (Ty.int IntKind.i64) Ty.unit))))) (Ty.cons (Ty.sl (Ty.cons (Ty.int IntKind.i64) (Ty.cons (Ty.int IntKind.i64) (Ty.cons (Ty.int IntKind.i64) Ty.unit)))) (Ty.cons (Ty.sl (Ty.cons Ty.str (Ty.cons (Ty.int IntKind.i64) (Ty.cons (Ty.int IntKind.i64) Ty.unit)))) (Ty.cons (Ty.sl (Ty.cons Ty.str (Ty.cons (Ty.int IntKind.i64) (Ty.cons (Ty.int IntKind.i64) Ty.unit)))) Ty.unit)))))))))))) [x1] Bool.true Option.none (Option.some Bool.false))]
def E5_19 (v8 : Int) (x0 : TyA0) (x1 : TyA0) : Env := [(2, PV.a (Atom.optr 0 0 [])), (3, PV.a (Atom.optr 1 0 [])), (8, PV.a (Atom.val (Value.int IntKind.i64 v8)))]
def L5_19 (v8 : Int) (x0 : TyA0) (x1 : TyA0) : Heap := [Option.some (Arr.mk (Ty.cons (Ty.sl (Ty.cons Ty.str (Ty.cons (Ty.int IntKind.i64) (Ty.cons (Ty.int IntKind.i64) (Ty.cons (Ty.int IntKind.i64) Ty.unit))))) (Ty.cons (Ty.cons (Ty.int IntKind.i64) (Ty.cons (Ty.int IntKind.i64) (Ty.cons (Ty.int IntKind.i64) (Ty.cons (Ty.int IntKind.i64) Ty.unit)))) (Ty.cons (Ty.sl (Ty.cons (Ty.int IntKind.i64) (Ty.cons (Ty.int IntKind.i64) (Ty.cons (Ty.int IntKind.i64) Ty.unit)))) (Ty.cons (Ty.sl (Ty.cons (Ty.int IntKind.i64) (Ty.cons (Ty.int IntKind.i64) (Ty.cons (Ty.int IntKind.i64) Ty.unit)))) (Ty.cons (Ty.cons (Ty.int IntKind.i64) (Ty.cons (Ty.int IntKind.i64) (Ty.cons (Ty.int IntKind.i64) Ty.unit))) (Ty.cons (Ty.cons (Ty.int IntKind.i64) (Ty.cons (Ty.int IntKind.i64) (Ty.cons (Ty.int IntKind.i64) Ty.unit))) (Ty.cons (Ty.sl (Ty.cons Ty.str (Ty.cons (Ty.int IntKind.i64) (Ty.cons (Ty.int IntKind.i64) Ty.unit)))) (Ty.cons (Ty.cons (Ty.int IntKind.i64) (Ty.cons (Ty.int IntKind.i64) (Ty.cons (Ty.int IntKind.i64) (Ty.cons (Ty.int IntKind.i64) Ty.unit)))) (Ty.cons (Ty.sl (Ty.cons Ty.str (Ty.cons (Ty.int IntKind.i64) (Ty.cons (Ty.int IntKind.i64) (Ty.cons (Ty.int IntKind.i64) Ty.unit))))) (Ty.cons (Ty.sl (Ty.cons (Ty.int IntKind.i64) (Ty.cons (Ty.int IntKind.i64) (Ty.cons (Ty.int IntKind.i64) Ty.unit)))) (Ty.cons (Ty.sl (Ty.cons Ty.str (Ty.cons (Ty.int IntKind.i64) (Ty.cons (Ty.int IntKind.i64) Ty.unit)))) (Ty.cons (Ty.sl (Ty.cons Ty.str (Ty.cons (Ty.int IntKind.i64) (Ty.cons (Ty.int IntKind.i64) Ty.unit)))) Ty.unit)))))))))))) [x0] Bool.true Option.none (Option.some Bool.false)), Option.some (Arr.mk (Ty.cons (Ty.sl (Ty.cons Ty.str (Ty.cons (Ty.int IntKind.i64) (Ty.cons (Ty.int IntKind.i64) (Ty.cons (Ty.int IntKind.i64) Ty.unit))))) (Ty.cons (Ty.cons (Ty.int IntKind.i64) (Ty.cons (Ty.int IntKind.i64) (Ty.cons (Ty.int IntKind.i64) (Ty.cons (Ty.int IntKind.i64) Ty.unit)))) (Ty.cons (Ty.sl (Ty.cons (Ty.int IntKind.i64) (Ty.cons (Ty.int IntKind.i64) (Ty.cons (Ty.int IntKind.i64) Ty.unit)))) (Ty.cons (Ty.sl (Ty.cons (Ty.int IntKind.i64) (Ty.cons (Ty.int IntKind.i64) (Ty.cons (Ty.int IntKind.i64) Ty.unit)))) (Ty.cons (Ty.cons (Ty.int IntKind.i64) (Ty.cons (Ty.int IntKind.i64) (Ty.cons (Ty.int IntKind.i64) Ty.unit))) (Ty.cons (Ty.cons (Ty.int IntKind.i64) (Ty.cons (Ty.int IntKind.i64) (Ty.cons (Ty.int IntKind.i64) Ty.unit))) (Ty.cons (Ty.sl (Ty.cons Ty.str (Ty.cons (Ty.int IntKind.i64) (Ty.cons (Ty.int IntKind.i64) Ty.unit)))) (Ty.cons (Ty.cons (Ty.int IntKind.i64) (Ty.cons (Ty.int IntKind.i64) (Ty.cons (Ty.int IntKind.i64) (Ty.cons (Ty.int IntKind.i64) Ty.unit)))) (Ty.cons (Ty.sl (Ty.cons Ty.str (Ty.cons (Ty.int IntKind.i64) (Ty.cons (Ty.int IntKind.i64) (Ty.cons (Ty.int IntKind.i64) Ty.unit))))) (Ty.cons (Ty.sl (Ty.cons (Ty.int IntKind.i64) (Ty.cons (Ty.int IntKind.i64) (Ty.cons (Ty.int IntKind.i64) Ty.unit)))) (Ty.cons (Ty.sl (Ty.cons Ty.str (Ty.cons (Ty.int IntKind.i64) (Ty.cons (Ty.int IntKind.i64) Ty.unit)))) (Ty.cons (Ty.sl (Ty.cons Ty.str (Ty.cons (Ty.int IntKind.i64) (Ty.cons (Ty.int IntKind.i64) Ty.unit)))) Ty.unit)))))))))))) [x1] Bool.true Option.none (Option.some Bool.false))]
def E5_24 (v9 : Int) (x0 : TyA0) (x1 : TyA0) : Env := [(2, PV.a (Atom.optr 0 0 [])), (3, PV.a (Atom.optr 1 0 [])), (9, PV.a (Atom.val (Value.int IntKind.i64 v9)))]
def L5_24 (v9 : Int) (x0 : TyA0) (x1 : TyA0) : Heap := [Option.some (Arr.mk (Ty.cons (Ty.sl (Ty.cons Ty.str (Ty.cons (Ty.int IntKind.i64) (Ty.cons (Ty.int IntKind.i64) (Ty.cons (Ty.int IntKind.i64) Ty.unit))))) (Ty.cons (Ty.cons (Ty.int IntKind.i64) (Ty.cons (Ty.int IntKind.i64) (Ty.cons (Ty.int IntKind.i64) (Ty.cons (Ty.int IntKind.i64) Ty.unit)))) (Ty.cons (Ty.sl (Ty.cons (Ty.int IntKind.i64) (Ty.cons (Ty.int IntKind.i64) (Ty.cons (Ty.int IntKind.i64) Ty.unit)))) (Ty.cons (Ty.sl (Ty.cons (Ty.int IntKind.i64) (Ty.cons (Ty.int IntKind.i64) (Ty.cons (Ty.int IntKind.i64) Ty.unit)))) (Ty.cons (Ty.cons (Ty.int IntKind.i64) (Ty.cons (Ty.int IntKind.i64) (Ty.cons (Ty.int IntKind.i64) Ty.unit))) (Ty.cons (Ty.cons (Ty.int IntKind.i64) (Ty.cons (Ty.int IntKind.i64) (Ty.cons (Ty.int IntKind.i64) Ty.unit))) (Ty.cons (Ty.sl (Ty.cons Ty.str (Ty.cons (Ty.int IntKind.i64) (Ty.cons (Ty.int IntKind.i64) Ty.unit)))) (Ty.cons (Ty.cons (Ty.int IntKind.i64) (Ty.cons (Ty.int IntKind.i64) (Ty.cons (Ty.int IntKind.i64) (Ty.cons (Ty.int IntKind.i64) Ty.unit)))) (Ty.cons (Ty.sl (Ty.cons Ty.str (Ty.cons (Ty.int IntKind.i64) (Ty.cons (Ty.int IntKind.i64) (Ty.cons (Ty.int IntKind.i64) Ty.unit))))) (Ty.cons (Ty.sl (Ty.cons (Ty.int IntKind.i64) (Ty.cons (Ty.int IntKind.i64) (Ty.cons (Ty.int IntKind.i64) Ty.unit)))) (Ty.cons (Ty.sl (Ty.cons Ty.str (Ty.cons (Ty.int IntKind.i64) (Ty.cons (Ty.int IntKind.i64) Ty.unit)))) (Ty.cons (Ty.sl (Ty.cons Ty.str (Ty.cons (Ty.int IntKind.i64) (Ty.cons (Ty.int IntKind.i64) Ty.unit)))) Ty.unit)))))))))))) [x0] Bool.true Option.none (Option.some Bool.false)), Option.some (Arr.mk (Ty.cons (Ty.sl (Ty.cons Ty.str (Ty.cons (Ty.int IntKind.i64) (Ty.cons (Ty.int IntKind.i64) (Ty.cons (Ty.int IntKind.i64) Ty.unit))))) (Ty.cons (Ty.cons (Ty.int IntKind.i64) (Ty.cons (Ty.int IntKind.i64) (Ty.cons (Ty.int IntKind.i64) (Ty.cons (Ty.int IntKind.i64) Ty.unit)))) (Ty.cons (Ty.sl (Ty.cons (Ty.int IntKind.i64) (Ty.cons (Ty.int IntKind.i64) (Ty.cons (Ty.int IntKind.i64) Ty.unit)))) (Ty.cons (Ty.sl (Ty.cons (Ty.int IntKind.i64) (Ty.cons (Ty.int IntKind.i64) (Ty.cons (Ty.int IntKind.i64) Ty.unit)))) (Ty.cons (Ty.cons (Ty.int IntKind.i64) (Ty.cons (Ty.int IntKind.i64) (Ty.cons (Ty.int IntKind.i64) Ty.unit))) (Ty.cons (Ty.cons (Ty.int IntKind.i64) (Ty.cons (Ty.int IntKind.i64) (Ty.cons (Ty.int IntKind.i64) Ty.unit))) (Ty.cons (Ty.sl (Ty.cons Ty.str (Ty.cons (Ty.int IntKind.i64) (Ty.cons (Ty.int IntKind.i64) Ty.unit)))) (Ty.cons (Ty.cons (Ty.int IntKind.i64) (Ty.cons (Ty.int IntKind.i64) (Ty.cons (Ty.int IntKind.i64) (Ty.cons (Ty.int IntKind.i64) Ty.unit)))) (Ty.cons (Ty.sl (Ty.cons Ty.str (Ty.cons (Ty.int IntKind.i64) (Ty.cons (Ty.int IntKind.i64) (Ty.cons (Ty.int IntKind.i64) Ty.unit))))) (Ty.cons (Ty.sl (Ty.cons (Ty.int IntKind.i64) (Ty.cons (Ty.int IntKind.i64) (Ty.cons (Ty.int IntKind.i64) Ty.unit)))) (Ty.cons (Ty.sl (Ty.cons Ty.str (Ty.cons (Ty.int IntKind.i64) (Ty.cons (Ty.int IntKind.i64) Ty.unit)))) (Ty.cons (Ty.sl (Ty.cons Ty.str (Ty.cons (Ty.int IntKind.i64) (Ty.cons (Ty.int IntKind.i64) Ty.unit)))) Ty.unit)))))))))))) [x1] Bool.true Option.none (Option.some Bool.false))]
def E5_29 (v10 : Int) (x0 : TyA0) (x1 : TyA0) : Env := [(2, PV.a (Atom.optr 0 0 [])), (3, PV.a (Atom.optr 1 0 [])), (10, PV.a (Atom.val (Value.int IntKind.i64 v10)))]
def L5_29 (v10 : Int) (x0 : TyA0) (x1 : TyA0) : Heap := [Option.some (Arr.mk (Ty.cons (Ty.sl (Ty.cons Ty.str (Ty.cons (Ty.int IntKind.i64) (Ty.cons (Ty.int IntKind.i64) (Ty.cons (Ty.int IntKind.i64) Ty.unit))))) (Ty.cons (Ty.cons (Ty.int IntKind.i64) (Ty.cons (Ty.int IntKind.i64) (Ty.cons (Ty.int IntKind.i64) (Ty.cons (Ty.int IntKind.i64) Ty.unit)))) (Ty.cons (Ty.sl (Ty.cons (Ty.int IntKind.i64) (Ty.cons (Ty.int IntKind.i64) (Ty.cons (Ty.int IntKind.i64) Ty.unit)))) (Ty.cons (Ty.sl (Ty.cons (Ty.int IntKind.i64) (Ty.cons (Ty.int IntKind.i64) (Ty.cons (Ty.int IntKind.i64) Ty.unit)))) (Ty.cons (Ty.cons (Ty.int IntKind.i64) (Ty.cons (Ty.int IntKind.i64) (Ty.cons (Ty.int IntKind.i64) Ty.unit))) (Ty.cons (Ty.cons (Ty.int IntKind.i64) (Ty.cons (Ty.int IntKind.i64) (Ty.cons (Ty.int IntKind.i64) Ty.unit))) (Ty.cons (Ty.sl (Ty.cons Ty.str (Ty.cons (Ty.int IntKind.i64) (Ty.cons (Ty.int IntKind.i64) Ty.unit)))) (Ty.cons (Ty.cons (Ty.int IntKind.i64) (Ty.cons (Ty.int IntKind.i64) (Ty.cons (Ty.int IntKind.i64) (Ty.cons (Ty.int IntKind.i64) Ty.unit)))) (Ty.cons (Ty.sl (Ty.cons Ty.str (Ty.cons (Ty.int IntKind.i64) (Ty.cons (Ty.int IntKind.i64) (Ty.cons (Ty.int IntKind.i64) Ty.unit))))) (Ty.cons (Ty.sl (Ty.cons (Ty.int IntKind.i64) (Ty.cons (Ty.int IntKind.i64) (Ty.cons (Ty.int IntKind.i64) Ty.unit)))) (Ty.cons (Ty.sl (Ty.cons Ty.str (Ty.cons (Ty.int IntKind.i64) (Ty.cons (Ty.int IntKind.i64) Ty.unit)))) (Ty.cons (Ty.sl (Ty.cons Ty.str (Ty.cons (Ty.int IntKind.i64) (Ty.cons (Ty.int IntKind.i64) Ty.unit)))) Ty.unit)))))))))))) [x0] Bool.true Option.none (Option.some Bool.false)), Option.some (Arr.mk (Ty.cons (Ty.sl (Ty.cons Ty.str (Ty.cons (Ty.int IntKind.i64) (Ty.cons (Ty.int IntKind.i64) (Ty.cons (Ty.int IntKind.i64) Ty.unit))))) (Ty.cons (Ty.cons (Ty.int IntKind.i64) (Ty.cons (Ty.int IntKind.i64) (Ty.cons (Ty.int IntKind.i64) (Ty.cons (Ty.int IntKind.i64) Ty.unit)))) (Ty.cons (Ty.sl (Ty.cons (Ty.int IntKind.i64) (Ty.cons (Ty.int IntKind.i64) (Ty.cons (Ty.int IntKind.i64) Ty.unit)))) (Ty.cons (Ty.sl (Ty.cons (Ty.int IntKind.i64) (Ty.cons (Ty.int IntKind.i64) (Ty.cons (Ty.int IntKind.i64) Ty.unit)))) (Ty.cons (Ty.cons (Ty.int IntKind.i64) (Ty.cons (Ty.int IntKind.i64) (Ty.cons (Ty.int IntKind.i64) Ty.unit))) (Ty.cons (Ty.cons (Ty.int IntKind.i64) (Ty.cons (Ty.int IntKind.i64) (Ty.cons (Ty.int IntKind.i64) Ty.unit))) (Ty.cons (Ty.sl (Ty.cons Ty.str (Ty.cons (Ty.int IntKind.i64) (Ty.cons (Ty.int IntKind.i64) Ty.unit)))) (Ty.cons (Ty.cons (Ty.int IntKind.i64) (Ty.cons (Ty.int IntKind.i64) (Ty.cons (Ty.int IntKind.i64) (Ty.cons (Ty.int IntKind.i64) Ty.unit)))) (Ty.cons (Ty.sl (Ty.cons Ty.str (Ty.cons (Ty.int IntKind.i64) (Ty.cons (Ty.int IntKind.i64) (Ty.cons (Ty.int IntKind.i64) Ty.unit))))) (Ty.cons (Ty.sl (Ty.cons (Ty.int IntKind.i64) (Ty.cons (Ty.int IntKind.i64) (Ty.cons (Ty.int IntKind.i64) Ty.unit)))) (Ty.cons (Ty.sl (Ty.cons Ty.str (Ty.cons (Ty.int IntKind.i64) (Ty.cons (Ty.int IntKind.i64) Ty.unit)))) (Ty.cons (Ty.sl (Ty.cons Ty.str (Ty.cons (Ty.int IntKind.i64) (Ty.cons (Ty.int IntKind.i64) Ty.unit)))) Ty.unit)))))))))))) [x1] Bool.true Option.none (Option.some Bool.false))]
def E5_34 (v11 : Int) (x0 : TyA0) (x1 : TyA0) : Env := [(2, PV.a (Atom.optr 0 0 [])), (3, PV.a (Atom.optr 1 0 [])), (11, PV.a (Atom.val (Value.int IntKind.i64 v11)))]
def L5_34 (v11 : Int) (x0 : TyA0) (x1 : TyA0) : Heap := [Option.some (Arr.mk (Ty.cons (Ty.sl (Ty.cons Ty.str (Ty.cons (Ty.int IntKind.i64) (Ty.cons (Ty.int IntKind.i64) (Ty.cons (Ty.int IntKind.i64) Ty.unit))))) (Ty.cons (Ty.cons (Ty.int IntKind.i64) (Ty.cons (Ty.int IntKind.i64) (Ty.cons (Ty.int IntKind.i64) (Ty.cons (Ty.int IntKind.i64) Ty.unit)))) (Ty.cons (Ty.sl (Ty.cons (Ty.int IntKind.i64) (Ty.cons (Ty.int IntKind.i64) (Ty.cons (Ty.int IntKind.i64) Ty.unit)))) (Ty.cons (Ty.sl (Ty.cons (Ty.int IntKind.i64) (Ty.cons (Ty.int IntKind.i64) (Ty.cons (Ty.int IntKind.i64) Ty.unit)))) (Ty.cons (Ty.cons (Ty.int IntKind.i64) (Ty.cons (Ty.int IntKind.i64) (Ty.cons (Ty.int IntKind.i64) Ty.unit))) (Ty.cons (Ty.cons (Ty.int IntKind.i64) (Ty.cons (Ty.int IntKind.i64) (Ty.cons (Ty.int IntKind.i64) Ty.unit))) (Ty.cons (Ty.sl (Ty.cons Ty.str (Ty.cons (Ty.int IntKind.i64) (Ty.cons (Ty.int IntKind.i64) Ty.unit)))) (Ty.cons (Ty.cons (Ty.int IntKind.i64) (Ty.cons (Ty.int IntKind.i64) (Ty.cons (Ty.int IntKind.i64) (Ty.cons (Ty.int IntKind.i64) Ty.unit)))) (Ty.cons (Ty.sl (Ty.cons Ty.str (Ty.cons (Ty.int IntKind.i64) (Ty.cons (Ty.int IntKind.i64) (Ty.cons (Ty.int IntKind.i64) Ty.unit))))) (Ty.cons (Ty.sl (Ty.cons (Ty.int IntKind.i64) (Ty.cons (Ty.int IntKind.i64) (Ty.cons (Ty.int IntKind.i64) Ty.unit)))) (Ty.cons (Ty.sl (Ty.cons Ty.str (Ty.cons (Ty.int IntKind.i64) (Ty.cons (Ty.int IntKind.i64) Ty.unit)))) (Ty.cons (Ty.sl (Ty.cons Ty.str (Ty.cons (Ty.int IntKind.i64) (Ty.cons (Ty.int IntKind.i64) Ty.unit)))) Ty.unit)))))))))))) [x0] Bool.true Option.none (Option.some Bool.false)), Option.some (Arr.mk (Ty.cons (Ty.sl (Ty.cons Ty.str (Ty.cons (Ty.int IntKind.i64) (Ty.cons (Ty.int IntKind.i64) (Ty.cons (Ty.int IntKind.i64) Ty.unit))))) (Ty.cons (Ty.cons (Ty.int IntKind.i64) (Ty.cons (Ty.int IntKind.i64) (Ty.cons (Ty.int IntKind.i64) (Ty.cons (Ty.int IntKind.i64) Ty.unit)))) (Ty.cons (Ty.sl (Ty.cons (Ty.int IntKind.i64) (Ty.cons (Ty.int IntKind.i64) (Ty.cons (Ty.int IntKind.i64) Ty.unit)))) (Ty.cons (Ty.sl (Ty.cons (Ty.int IntKind.i64) (Ty.cons (Ty.int IntKind.i64) (Ty.cons (Ty.int IntKind.i64) Ty.unit)))) (Ty.cons (Ty.cons (Ty.int IntKind.i64) (Ty.cons (Ty.int IntKind.i64) (Ty.cons (Ty.int IntKind.i64) Ty.unit))) (Ty.cons (Ty.cons (Ty.int IntKind.i64) (Ty.cons (Ty.int IntKind.i64) (Ty.cons (Ty.int IntKind.i64) Ty.unit))) (Ty.cons (Ty.sl (Ty.cons Ty.str (Ty.cons (Ty.int IntKind.i64) (Ty.cons (Ty.int IntKind.i64) Ty.unit)))) (Ty.cons (Ty.cons (Ty.int IntKind.i64) (Ty.cons (Ty.int IntKind.i64) (Ty.cons (Ty.int IntKind.i64) (Ty.cons (Ty.int IntKind.i64) Ty.unit)))) (Ty.cons (Ty.sl (Ty.cons Ty.str (Ty.cons (Ty.int IntKind.i64) (Ty.cons (Ty.int IntKind.i64) (Ty.cons (Ty.int IntKind.i64) Ty.unit))))) (Ty.cons (Ty.sl (Ty.cons (Ty.int IntKind.i64) (Ty.cons (Ty.int IntKind.i64) (Ty.cons (Ty.int IntKind.i64) Ty.unit)))) (Ty.cons (Ty.sl (Ty.cons Ty.str (Ty.cons (Ty.int IntKind.i64) (Ty.cons (Ty.int IntKind.i64) Ty.unit)))) (Ty.cons (Ty.sl (Ty.cons Ty.str (Ty.cons (Ty.int IntKind.i64) (Ty.cons (Ty.int IntKind.i64) Ty.unit)))) Ty.unit)))))))))))) [x1] Bool.true Option.none (Option.some Bool.false))]
def E5_39 (v12 : Int) (x0 : TyA0) (x1 : TyA0) : Env := [(2, PV.a (Atom.optr 0 0 [])), (3, PV.a (Atom.optr 1 0 [])), (12, PV.a (Atom.val (Value.int IntKind.i64 v12)))]
def L5_39 (v12 : Int) (x0 : TyA0) (x1 : TyA0) : Heap := [Option.some (Arr.mk (Ty.cons (Ty.sl (Ty.cons Ty.str (Ty.cons (Ty.int IntKind.i64) (Ty.cons (Ty.int IntKind.i64) (Ty.cons (Ty.int IntKind.i64) Ty.unit))))) (Ty.cons (Ty.cons (Ty.int IntKind.i64) (Ty.cons (Ty.int IntKind.i64) (Ty.cons (Ty.int IntKind.i64) (Ty.cons (Ty.int IntKind.i64) Ty.unit)))) (Ty.cons (Ty.sl (Ty.cons (Ty.int IntKind.i64) (Ty.cons (Ty.int IntKind.i64) (Ty.cons (Ty.int IntKind.i64) Ty.unit)))) (Ty.cons (Ty.sl (Ty.cons (Ty.int IntKind.i64) (Ty.cons (Ty.int IntKind.i64) (Ty.cons (Ty.int IntKind.i64) Ty.unit)))) (Ty.cons (Ty.cons (Ty.int IntKind.i64) (Ty.cons (Ty.int IntKind.i64) (Ty.cons (Ty.int IntKind.i64) Ty.unit))) (Ty.cons (Ty.cons (Ty.int IntKind.i64) (Ty.cons (Ty.int IntKind.i64) (Ty.cons (Ty.int IntKind.i64) Ty.unit))) (Ty.cons (Ty.sl (Ty.cons Ty.str (Ty.cons (Ty.int IntKind.i64) (Ty.cons (Ty.int IntKind.i64) Ty.unit)))) (Ty.cons (Ty.cons (Ty.int IntKind.i64) (Ty.cons (Ty.int IntKind.i64) (Ty.cons (Ty.int IntKind.i64) (Ty.cons (Ty.int IntKind.i64) Ty.unit)))) (Ty.cons (Ty.sl (Ty.cons Ty.str (Ty.cons (Ty.int IntKind.i64) (Ty.cons (Ty.int IntKind.i64) (Ty.cons (Ty.int IntKind.i64) Ty.unit))))) (Ty.cons (Ty.sl (Ty.cons (Ty.int IntKind.i64) (Ty.cons (Ty.int IntKind.i64) (Ty.cons (Ty.int IntKind.i64) Ty.unit)))) (Ty.cons (Ty.sl (Ty.cons Ty.str (Ty.cons (Ty.int IntKind.i64) (Ty.cons (Ty.int IntKind.i64) Ty.unit)))) (Ty.cons (Ty.sl (Ty.cons Ty.str (Ty.cons (Ty.int IntKind.i64) (Ty.cons (Ty.int IntKind.i64) Ty.unit)))) Ty.unit)))))))))))) [x0] Bool.true Option.none (Option.some Bool.false)), Option.some (Arr.mk (Ty.cons (Ty.sl (Ty.cons Ty.str (Ty.cons (Ty.int IntKind.i64) (Ty.cons (Ty.int IntKind.i64) (Ty.cons (Ty.int IntKind.i64) Ty.unit))))) (Ty.cons (Ty.cons (Ty.int IntKind.i64) (Ty.cons (Ty.int IntKind.i64) (Ty.cons (Ty.int IntKind.i64) (Ty.cons (Ty.int IntKind.i64) Ty.unit)))) (Ty.cons (Ty.sl (Ty.cons (Ty.int IntKind.i64) (Ty.cons (Ty.int IntKind.i64) (Ty.cons (Ty.int IntKind.i64) Ty.unit)))) (Ty.cons (Ty.sl (Ty.cons (Ty.int IntKind.i64) (Ty.cons (Ty.int IntKind.i64) (Ty.cons (Ty.int IntKind.i64) Ty.unit)))) (Ty.cons (Ty.cons (Ty.int IntKind.i64) (Ty.cons (Ty.int IntKind.i64) (Ty.cons (Ty.int IntKind.i64) Ty.unit))) (Ty.cons (Ty.cons (Ty.int IntKind.i64) (Ty.cons (Ty.int IntKind.i64) (Ty.cons (Ty.int IntKind.i64) Ty.unit))) (Ty.cons (Ty.sl (Ty.cons Ty.str (Ty.cons (Ty.int IntKind.i64) (Ty.cons (Ty.int IntKind.i64) Ty.unit)))) (Ty.cons (Ty.cons (Ty.int IntKind.i64) (Ty.cons (Ty.int IntKind.i64) (Ty.cons (Ty.int IntKind.i64) (Ty.cons (Ty.int IntKind.i64) Ty.unit)))) (Ty.cons (Ty.sl (Ty.cons Ty.str (Ty.cons (Ty.int IntKind.i64) (Ty.cons (Ty.int IntKind.i64) (Ty.cons (Ty.int IntKind.i64) Ty.unit))))) (Ty.cons (Ty.sl (Ty.cons (Ty.int IntKind.i64) (Ty.cons (Ty.int IntKind.i64) (Ty.cons (Ty.int IntKind.i64) Ty.unit)))) (Ty.cons (Ty.sl (Ty.cons Ty.str (Ty.cons (Ty.int IntKind.i64) (Ty.cons (Ty.int IntKind.i64) Ty.unit)))) (Ty.cons (Ty.sl (Ty.cons Ty.str (Ty.cons (Ty.int IntKind.i64) (Ty.cons (Ty.int IntKind.i64) Ty.unit)))) Ty.unit)))))))))))) [x1] Bool.true Option.none (Option.some Bool.false))]
mutual
def R5 : Nat → TyA0 → TyA0 → List Dyn → Prop
  | 0, _, _, _ => False
  | n + 1, x0, x1, ds => (if (!g17_0 x0 x1) = true then (ds = [Dyn.mk Ty.bool Bool.false]) else (if (!eqD (Ty.cons (Ty.int IntKind.i64) (Ty.cons (Ty.int IntKind.i64) (Ty.cons (Ty.int IntKind.i64) (Ty.cons (Ty.int IntKind.i64) Ty.unit)))) (Prod.fst (Prod.snd x0)) (Prod.fst (Prod.snd x1))) = true then (ds = [Dyn.mk Ty.bool Bool.false]) else (if (!eqD (Ty.cons (Ty.int IntKind.i64) (Ty.cons (Ty.int IntKind.i64) (Ty.cons (Ty.int IntKind.i64) Ty.unit))) (Prod.fst (Prod.snd (Prod.snd (Prod.snd (Prod.snd x0))))) (Prod.fst (Prod.snd (Prod.snd (Prod.snd (Prod.snd x1)))))) = true then (ds = [Dyn.mk Ty.bool Bool.false]) else (if (!eqD (Ty.cons (Ty.int IntKind.i64) (Ty.cons (Ty.int IntKind.i64) (Ty.cons (Ty.int IntKind.i64) Ty.unit))) (Prod.fst (Prod.snd (Prod.snd (Prod.snd (Prod.snd (Prod.snd x0)))))) (Prod.fst (Prod.snd (Prod.snd (Prod.snd (Prod.snd (Prod.snd x1))))))) = true then (ds = [Dyn.mk Ty.bool Bool.false]) else (if (!eqD (Ty.cons (Ty.int IntKind.i64) (Ty.cons (Ty.int IntKind.i64) (Ty.cons (Ty.int IntKind.i64) (Ty.cons (Ty.int IntKind.i64) Ty.unit)))) (Prod.fst (Prod.snd (Prod.snd (Prod.snd (Prod.snd (Prod.snd (Prod.snd (Prod.snd x0)))))))) (Prod.fst (Prod.snd (Prod.snd (Prod.snd (Prod.snd (Prod.snd (Prod.snd (Prod.snd x1))))))))) = true then (ds = [Dyn.mk Ty.bool Bool.false]) else (R5_4 n (0) (x0) (x1) ds))))))
def R5_4 : Nat → Int → TyA0 → TyA0 → List Dyn → Prop
  | 0, _, _, _, _ => False
  | n + 1, v5, x0, x1, ds => (if (Decidable.decide (v5 < (↑(List.length (Prod.fst x0)) : Int))) = true then ((0 ≤ v5) ∧ (v5 < (↑(List.length (Prod.fst x0)) : Int)) ∧ ((0 ≤ v5) ∧ (v5 < (↑(List.length (Prod.fst x1)) : Int)) ∧ (if (!eqD (Ty.cons Ty.str (Ty.cons (Ty.int IntKind.i64) (Ty.cons (Ty.int IntKind.i64) (Ty.cons (Ty.int IntKind.i64) Ty.unit)))) (List.getD (Prod.fst x0) (Int.toNat v5) (ByteArray.empty, 0, 0, 0, ())) (List.getD (Prod.fst x1) (Int.toNat v5) (ByteArray.empty, 0, 0, 0, ()))) = true then (ds = [Dyn.mk Ty.bool Bool.false]) else ((InR IntKind.i64 (v5 + 1)) ∧ (R5_4 n (v5 + 1) (x0) (x1) ds))))) else (R5_9 n (0) (x0) (x1) ds))
def R5_9 : Nat → Int → TyA0 → TyA0 → List Dyn → Prop
  | 0, _, _, _, _ => False
  | n + 1, v6, x0, x1, ds => (if (Decidable.decide (v6 < (↑(List.length (Prod.fst (Prod.snd (Prod.snd x0)))) : Int))) = true then ((0 ≤ v6) ∧ (v6 < (↑(List.length (Prod.fst (Prod.snd (Prod.snd x0)))) : Int)) ∧ ((0 ≤ v6) ∧ (v6 < (↑(List.length (Prod.fst (Prod.snd (Prod.snd x1)))) : Int)) ∧ (if (!eqD (Ty.cons (Ty.int IntKind.i64) (Ty.cons (Ty.int IntKind.i64) (Ty.cons (Ty.int IntKind.i64) Ty.unit))) (List.getD (Prod.fst (Prod.snd (Prod.snd x0))) (Int.toNat v6) (0, 0, 0, ())) (List.getD (Prod.fst (Prod.snd (Prod.snd x1))) (Int.toNat v6) (0, 0, 0, ()))) = true then (ds = [Dyn.mk Ty.bool Bool.false]) else ((InR IntKind.i64 (v6 + 1)) ∧ (R5_9 n (v6 + 1) (x0) (x1) ds))))) else (R5_14 n (0) (x0) (x1) ds))
def R5_14 : Nat → Int → TyA0 → TyA0 → List Dyn → Prop
  | 0, _, _, _, _ => False
  | n + 1, v7, x0, x1, ds => (if (Decidable.decide (v7 < (↑(List.length (Prod.fst (Prod.snd (Prod.snd (Prod.snd x0))))) : Int))) = true then ((0 ≤ v7) ∧ (v7 < (↑(List.length (Prod.fst (Prod.snd (Prod.snd (Prod.snd x0))))) : Int)) ∧ ((0 ≤ v7) ∧ (v7 < (↑(List.length (Prod.fst (Prod.snd (Prod.snd (Prod.snd x1))))) : Int)) ∧ (if (!eqD (Ty.cons (Ty.int IntKind.i64) (Ty.cons (Ty.int IntKind.i64) (Ty.cons (Ty.int IntKind.i64) Ty.unit))) (List.getD (Prod.fst (Prod.snd (Prod.snd (Prod.snd x0)))) (Int.toNat v7) (0, 0, 0, ())) (List.getD (Prod.fst (Prod.snd (Prod.snd (Prod.snd x1)))) (Int.toNat v7) (0, 0, 0, ()))) = true then (ds = [Dyn.mk Ty.bool Bool.false]) else ((InR IntKind.i64 (v7 + 1)) ∧ (R5_14 n (v7 + 1) (x0) (x1) ds))))) else (R5_19 n (0) (x0) (x1) ds))
def R5_19 : Nat → Int → TyA0 → TyA0 → List Dyn → Prop
  | 0, _, _, _, _ => False
  | n + 1, v8, x0, x1, ds => (if (Decidable.decide (v8 < (↑(List.length (Prod.fst (Prod.snd (Prod.snd (Prod.snd (Prod.snd (Prod.snd (Prod.snd x0)))))))) : Int))) = true then ((0 ≤ v8) ∧ (v8 < (↑(List.length (Prod.fst (Prod.snd (Prod.snd (Prod.snd (Prod.snd (Prod.snd (Prod.snd x0)))))))) : Int)) ∧ ((0 ≤ v8) ∧ (v8 < (↑(List.length (Prod.fst (Prod.snd (Prod.snd (Prod.snd (Prod.snd (Prod.snd (Prod.snd x1)))))))) : Int)) ∧ (if (!eqD (Ty.cons Ty.str (Ty.cons (Ty.int IntKind.i64) (Ty.cons (Ty.int IntKind.i64) Ty.unit))) (List.getD (Prod.fst (Prod.snd (Prod.snd (Prod.snd (Prod.snd (Prod.snd (Prod.snd x0))))))) (Int.toNat v8) (ByteArray.empty, 0, 0, ())) (List.getD (Prod.fst (Prod.snd (Prod.snd (Prod.snd (Prod.snd (Prod.snd (Prod.snd x1))))))) (Int.toNat v8) (ByteArray.empty, 0, 0, ()))) = true then (ds = [Dyn.mk Ty.bool Bool.false]) else ((InR IntKind.i64 (v8 + 1)) ∧ (R5_19 n (v8 + 1) (x0) (x1) ds))))) else (R5_24 n (0) (x0) (x1) ds))
def R5_24 : Nat → Int → TyA0 → TyA0 → List Dyn → Prop
  | 0, _, _, _, _ => False
  | n + 1, v9, x0, x1, ds => (if (Decidable.decide (v9 < (↑(List.length (Prod.fst (Prod.snd (Prod.snd (Prod.snd (Prod.snd (Prod.snd (Prod.snd (Prod.snd (Prod.snd x0)))))))))) : Int))) = true then ((0 ≤ v9) ∧ (v9 < (↑(List.length (Prod.fst (Prod.snd (Prod.snd (Prod.snd (Prod.snd (Prod.snd (Prod.snd (Prod.snd (Prod.snd x0)))))))))) : Int)) ∧ ((0 ≤ v9) ∧ (v9 < (↑(List.length (Prod.fst (Prod.snd (Prod.snd (Prod.snd (Prod.snd (Prod.snd (Prod.snd (Prod.snd (Prod.snd x1)))))))))) : Int)) ∧ (if (!eqD (Ty.cons Ty.str (Ty.cons (Ty.int IntKind.i64) (Ty.cons (Ty.int IntKind.i64) (Ty.cons (Ty.int IntKind.i64) Ty.unit)))) (List.getD (Prod.fst (Prod.snd (Prod.snd (Prod.snd (Prod.snd (Prod.snd (Prod.snd (Prod.snd (Prod.snd x0))))))))) (Int.toNat v9) (ByteArray.empty, 0, 0, 0, ())) (List.getD (Prod.fst (Prod.snd (Prod.snd (Prod.snd (Prod.snd (Prod.snd (Prod.snd (Prod.snd (Prod.snd x1))))))))) (Int.toNat v9) (ByteArray.empty, 0, 0, 0, ()))) = true then (ds = [Dyn.mk Ty.bool Bool.false]) else ((InR IntKind.i64 (v9 + 1)) ∧ (R5_24 n (v9 + 1) (x0) (x1) ds))))) else (R5_29 n (0) (x0) (x1) ds))
def R5_29 : Nat → Int → TyA0 → TyA0 → List Dyn → Prop
  | 0, _, _, _, _ => False
  | n + 1, v10, x0, x1, ds => (if (Decidable.decide (v10 < (↑(List.length (Prod.fst (Prod.snd (Prod.snd (Prod.snd (Prod.snd (Prod.snd (Prod.snd (Prod.snd (Prod.snd (Prod.snd x0))))))))))) : Int))) = true then ((0 ≤ v10) ∧ (v10 < (↑(List.length (Prod.fst (Prod.snd (Prod.snd (Prod.snd (Prod.snd (Prod.snd (Prod.snd (Prod.snd (Prod.snd (Prod.snd x0))))))))))) : Int)) ∧ ((0 ≤ v10) ∧ (v10 < (↑(List.length (Prod.fst (Prod.snd (Prod.snd (Prod.snd (Prod.snd (Prod.snd (Prod.snd (Prod.snd (Prod.snd (Prod.snd x1))))))))))) : Int)) ∧ (if (!eqD (Ty.cons (Ty.int IntKind.i64) (Ty.cons (Ty.int IntKind.i64) (Ty.cons (Ty.int IntKind.i64) Ty.unit))) (List.getD (Prod.fst (Prod.snd (Prod.snd (Prod.snd (Prod.snd (Prod.snd (Prod.snd (Prod.snd (Prod.snd (Prod.snd x0)))))))))) (Int.toNat v10) (0, 0, 0, ())) (List.getD (Prod.fst (Prod.snd (Prod.snd (Prod.snd (Prod.snd (Prod.snd (Prod.snd (Prod.snd (Prod.snd (Prod.snd x1)))))))))) (Int.toNat v10) (0, 0, 0, ()))) = true then (ds = [Dyn.mk Ty.bool Bool.false]) else ((InR IntKind.i64 (v10 + 1)) ∧ (R5_29 n (v10 + 1) (x0) (x1) ds))))) else (R5_34 n (0) (x0) (x1) ds))
def R5_34 : Nat → Int → TyA0 → TyA0 → List Dyn → Prop
  | 0, _, _, _, _ => False
  | n + 1, v11, x0, x1, ds => (if (Decidable.decide (v11 < (↑(List.length (Prod.fst (Prod.snd (Prod.snd (Prod.snd (Prod.snd (Prod.snd (Prod.snd (Prod.snd (Prod.snd (Prod.snd (Prod.snd x0)))))))))))) : Int))) = true then ((0 ≤ v11) ∧ (v11 < (↑(List.length (Prod.fst (Prod.snd (Prod.snd (Prod.snd (Prod.snd (Prod.snd (Prod.snd (Prod.snd (Prod.snd (Prod.snd (Prod.snd x0)))))))))))) : Int)) ∧ ((0 ≤ v11) ∧ (v11 < (↑(List.length (Prod.fst (Prod.snd (Prod.snd (Prod.snd (Prod.snd (Prod.snd (Prod.snd (Prod.snd (Prod.snd (Prod.snd (Prod.snd x1)))))))))))) : Int)) ∧ (if (!eqD (Ty.cons Ty.str (Ty.cons (Ty.int IntKind.i64) (Ty.cons (Ty.int IntKind.i64) Ty.unit))) (List.getD (Prod.fst (Prod.snd (Prod.snd (Prod.snd (Prod.snd (Prod.snd (Prod.snd (Prod.snd (Prod.snd (Prod.snd (Prod.snd x0))))))))))) (Int.toNat v11) (ByteArray.empty, 0, 0, ())) (List.getD (Prod.fst (Prod.snd (Prod.snd (Prod.snd (Prod.snd (Prod.snd (Prod.snd (Prod.snd (Prod.snd (Prod.snd (Prod.snd x1))))))))))) (Int.toNat v11) (ByteArray.empty, 0, 0, ()))) = true then (ds = [Dyn.mk Ty.bool Bool.false]) else ((InR IntKind.i64 (v11 + 1)) ∧ (R5_34 n (v11 + 1) (x0) (x1) ds))))) else (R5_39 n (0) (x0) (x1) ds))
def R5_39 : Nat → Int → TyA0 → TyA0 → List Dyn → Prop
  | 0, _, _, _, _ => False
  | n + 1, v12, x0, x1, ds => (if (Decidable.decide (v12 < (↑(List.length (Prod.fst (Prod.snd (Prod.snd (Prod.snd (Prod.snd (Prod.snd (Prod.snd (Prod.snd (Prod.snd (Prod.snd (Prod.snd (Prod.snd x0))))))))))))) : Int))) = true then ((0 ≤ v12) ∧ (v12 < (↑(List.length (Prod.fst (Prod.snd (Prod.snd (Prod.snd (Prod.snd (Prod.snd (Prod.snd (Prod.snd (Prod.snd (Prod.snd (Prod.snd (Prod.snd x0))))))))))))) : Int)) ∧ ((0 ≤ v12) ∧ (v12 < (↑(List.length (Prod.fst (Prod.snd (Prod.snd (Prod.snd (Prod.snd (Prod.snd (Prod.snd (Prod.snd (Prod.snd (Prod.snd (Prod.snd (Prod.snd x1))))))))))))) : Int)) ∧ (if (!eqD (Ty.cons Ty.str (Ty.cons (Ty.int IntKind.i64) (Ty.cons (Ty.int IntKind.i64) Ty.unit))) (List.getD (Prod.fst (Prod.snd (Prod.snd (Prod.snd (Prod.snd (Prod.snd (Prod.snd (Prod.snd (Prod.snd (Prod.snd (Prod.snd (Prod.snd x0)))))))))))) (Int.toNat v12) (ByteArray.empty, 0, 0, ())) (List.getD (Prod.fst (Prod.snd (Prod.snd (Prod.snd (Prod.snd (Prod.snd (Prod.snd (Prod.snd (Prod.snd (Prod.snd (Prod.snd (Prod.snd x1)))))))))))) (Int.toNat v12) (ByteArray.empty, 0, 0, ()))) = true then (ds = [Dyn.mk Ty.bool Bool.false]) else ((InR IntKind.i64 (v12 + 1)) ∧ (R5_39 n (v12 + 1) (x0) (x1) ds))))) else (ds = [Dyn.mk Ty.bool Bool.true]))
end
theorem p5_0 (x0 : TyA0) (x1 : TyA0) : runF tab ext5 false 187 [] 2000 [] oks5 kds5 tys5 Try.f5.results [true, true, true, true, true] [.code b5] (entE 0 0 sig5 (x0, x1, ())) (entL sig5 (x0, x1, ())) = some ([Dyn.mk Ty.bool Bool.false], [], [True, (!g17_0 x0 x1) = Bool.true, Bool.true = Bool.true, Bool.true = Bool.true, Bool.true = Bool.true, Bool.true = Bool.true]) := by kernel_rfl
theorem p5_1 (x0 : TyA0) (x1 : TyA0) : runF tab ext5 false 187 [] 2000 [] oks5 kds5 tys5 Try.f5.results [false, true, true, true, true] [.code b5] (entE 0 0 sig5 (x0, x1, ())) (entL sig5 (x0, x1, ())) = some ([Dyn.mk Ty.bool Bool.false], [], [True, (!g17_0 x0 x1) = Bool.false, (!eqD (Ty.cons (Ty.int IntKind.i64) (Ty.cons (Ty.int IntKind.i64) (Ty.cons (Ty.int IntKind.i64) (Ty.cons (Ty.int IntKind.i64) Ty.unit)))) (Prod.fst (Prod.snd x0)) (Prod.fst (Prod.snd x1))) = Bool.true, Bool.true = Bool.true, Bool.true = Bool.true, Bool.true = Bool.true]) := by kernel_rfl
theorem p5_2 (x0 : TyA0) (x1 : TyA0) : runF tab ext5 false 187 [] 2000 [] oks5 kds5 tys5 Try.f5.results [false, false, true, true, true] [.code b5] (entE 0 0 sig5 (x0, x1, ())) (entL sig5 (x0, x1, ())) = some ([Dyn.mk Ty.bool Bool.false], [], [True, (!g17_0 x0 x1) = Bool.false, (!eqD (Ty.cons (Ty.int IntKind.i64) (Ty.cons (Ty.int IntKind.i64) (Ty.cons (Ty.int IntKind.i64) (Ty.cons (Ty.int IntKind.i64) Ty.unit)))) (Prod.fst (Prod.snd x0)) (Prod.fst (Prod.snd x1))) = Bool.false, (!eqD (Ty.cons (Ty.int IntKind.i64) (Ty.cons (Ty.int IntKind.i64) (Ty.cons (Ty.int IntKind.i64) Ty.unit))) (Prod.fst (Prod.snd (Prod.snd (Prod.snd (Prod.snd x0))))) (Prod.fst (Prod.snd (Prod.snd (Prod.snd (Prod.snd x1)))))) = Bool.true, Bool.true = Bool.true, Bool.true = Bool.true]) := by kernel_rfl
theorem p5_3 (x0 : TyA0) (x1 : TyA0) : runF tab ext5 false 187 [] 2000 [] oks5 kds5 tys5 Try.f5.results [false, false, false, true, true] [.code b5] (entE 0 0 sig5 (x0, x1, ())) (entL sig5 (x0, x1, ())) = some ([Dyn.mk Ty.bool Bool.false], [], [True, (!g17_0 x0 x1) = Bool.false, (!eqD (Ty.cons (Ty.int IntKind.i64) (Ty.cons (Ty.int IntKind.i64) (Ty.cons (Ty.int IntKind.i64) (Ty.cons (Ty.int IntKind.i64) Ty.unit)))) (Prod.fst (Prod.snd x0)) (Prod.fst (Prod.snd x1))) = Bool.false, (!eqD (Ty.cons (Ty.int IntKind.i64) (Ty.cons (Ty.int IntKind.i64) (Ty.cons (Ty.int IntKind.i64) Ty.unit))) (Prod.fst (Prod.snd (Prod.snd (Prod.snd (Prod.snd x0))))) (Prod.fst (Prod.snd (Prod.snd (Prod.snd (Prod.snd x1)))))) = Bool.false, (!eqD (Ty.cons (Ty.int IntKind.i64) (Ty.cons (Ty.int IntKind.i64) (Ty.cons (Ty.int IntKind.i64) Ty.unit))) (Prod.fst (Prod.snd (Prod.snd (Prod.snd (Prod.snd (Prod.snd x0)))))) (Prod.fst (Prod.snd (Prod.snd (Prod.snd (Prod.snd (Prod.snd x1))))))) = Bool.true, Bool.true = Bool.true]) := by kernel_rfl
theorem p5_4 (x0 : TyA0) (x1 : TyA0) : runF tab ext5 false 187 [] 2000 [] oks5 kds5 tys5 Try.f5.results [false, false, false, false, true] [.code b5] (entE 0 0 sig5 (x0, x1, ())) (entL sig5 (x0, x1, ())) = some ([Dyn.mk Ty.bool Bool.false], [], [True, (!g17_0 x0 x1) = Bool.false, (!eqD (Ty.cons (Ty.int IntKind.i64) (Ty.cons (Ty.int IntKind.i64) (Ty.cons (Ty.int IntKind.i64) (Ty.cons (Ty.int IntKind.i64) Ty.unit)))) (Prod.fst (Prod.snd x0)) (Prod.fst (Prod.snd x1))) = Bool.false, (!eqD (Ty.cons (Ty.int IntKind.i64) (Ty.cons (Ty.int IntKind.i64) (Ty.cons (Ty.int IntKind.i64) Ty.unit))) (Prod.fst (Prod.snd (Prod.snd (Prod.snd (Prod.snd x0))))) (Prod.fst (Prod.snd (Prod.snd (Prod.snd (Prod.snd x1)))))) = Bool.false, (!eqD (Ty.cons (Ty.int IntKind.i64) (Ty.cons (Ty.int IntKind.i64) (Ty.cons (Ty.int IntKind.i64) Ty.unit))) (Prod.fst (Prod.snd (Prod.snd (Prod.snd (Prod.snd (Prod.snd x0)))))) (Prod.fst (Prod.snd (Prod.snd (Prod.snd (Prod.snd (Prod.snd x1))))))) = Bool.false, (!eqD (Ty.cons (Ty.int IntKind.i64) (Ty.cons (Ty.int IntKind.i64) (Ty.cons (Ty.int IntKind.i64) (Ty.cons (Ty.int IntKind.i64) Ty.unit)))) (Prod.fst (Prod.snd (Prod.snd (Prod.snd (Prod.snd (Prod.snd (Prod.snd (Prod.snd x0)))))))) (Prod.fst (Prod.snd (Prod.snd (Prod.snd (Prod.snd (Prod.snd (Prod.snd (Prod.snd x1))))))))) = Bool.true]) := by kernel_rfl
theorem p5_5 (x0 : TyA0) (x1 : TyA0) : Am.runN tab ext5 false 187 [] 2000 [] [] [2, 3, 5] [0, 1] [false, false, false, false, false] [.code b5] (entE 0 0 sig5 (x0, x1, ())) (entL sig5 (x0, x1, ())) = some (cutAt b5 4, E5_4 (0) (x0) (x1), L5_4 (0) (x0) (x1), [True, (!g17_0 x0 x1) = Bool.false, (!eqD (Ty.cons (Ty.int IntKind.i64) (Ty.cons (Ty.int IntKind.i64) (Ty.cons (Ty.int IntKind.i64) (Ty.cons (Ty.int IntKind.i64) Ty.unit)))) (Prod.fst (Prod.snd x0)) (Prod.fst (Prod.snd x1))) = Bool.false, (!eqD (Ty.cons (Ty.int IntKind.i64) (Ty.cons (Ty.int IntKind.i64) (Ty.cons (Ty.int IntKind.i64) Ty.unit))) (Prod.fst (Prod.snd (Prod.snd (Prod.snd (Prod.snd x0))))) (Prod.fst (Prod.snd (Prod.snd (Prod.snd (Prod.snd x1)))))) = Bool.false, (!eqD (Ty.cons (Ty.int IntKind.i64) (Ty.cons (Ty.int IntKind.i64) (Ty.cons (Ty.int IntKind.i64) Ty.unit))) (Prod.fst (Prod.snd (Prod.snd (Prod.snd (Prod.snd (Prod.snd x0)))))) (Prod.fst (Prod.snd (Prod.snd (Prod.snd (Prod.snd (Prod.snd x1))))))) = Bool.false, (!eqD (Ty.cons (Ty.int IntKind.i64) (Ty.cons (Ty.int IntKind.i64) (Ty.cons (Ty.int IntKind.i64) (Ty.cons (Ty.int IntKind.i64) Ty.unit)))) (Prod.fst (Prod.snd (Prod.snd (Prod.snd (Prod.snd (Prod.snd (Prod.snd (Prod.snd x0)))))))) (Prod.fst (Prod.snd (Prod.snd (Prod.snd (Prod.snd (Prod.snd (Prod.snd (Prod.snd x1))))))))) = Bool.false]) := by kernel_rfl
theorem p5_6 (v5 : Int) (x0 : TyA0) (x1 : TyA0) : runF tab ext5 false 187 [] 2000 [] oks5 kds5 tys5 Try.f5.results [true, true] (cutAt b5 4) (E5_4 v5 x0 x1) (L5_4 v5 x0 x1) = some ([Dyn.mk Ty.bool Bool.false], [], [Decidable.decide (v5 < (↑(List.length (Prod.fst x0)) : Int)) = Bool.true, 0 ≤ v5, v5 < (↑(List.length (Prod.fst x0)) : Int), 0 ≤ v5, v5 < (↑(List.length (Prod.fst x1)) : Int), (!eqD (Ty.cons Ty.str (Ty.cons (Ty.int IntKind.i64) (Ty.cons (Ty.int IntKind.i64) (Ty.cons (Ty.int IntKind.i64) Ty.unit)))) (List.getD (Prod.fst x0) (Int.toNat v5) (ByteArray.empty, 0, 0, 0, ())) (List.getD (Prod.fst x1) (Int.toNat v5) (ByteArray.empty, 0, 0, 0, ()))) = Bool.true]) := by kernel_rfl
theorem p5_7 (v5 : Int) (x0 : TyA0) (x1 : TyA0) : Am.runN tab ext5 false 187 [] 2000 [] [] [2, 3, 5] [0, 1] [true, false] (cutAt b5 4) (E5_4 v5 x0 x1) (L5_4 v5 x0 x1) = some (cutAt b5 4, E5_4 (v5 + 1) (x0) (x1), L5_4 (v5 + 1) (x0) (x1), [Decidable.decide (v5 < (↑(List.length (Prod.fst x0)) : Int)) = Bool.true, 0 ≤ v5, v5 < (↑(List.length (Prod.fst x0)) : Int), 0 ≤ v5, v5 < (↑(List.length (Prod.fst x1)) : Int), (!eqD (Ty.cons Ty.str (Ty.cons (Ty.int IntKind.i64) (Ty.cons (Ty.int IntKind.i64) (Ty.cons (Ty.int IntKind.i64) Ty.unit)))) (List.getD (Prod.fst x0) (Int.toNat v5) (ByteArray.empty, 0, 0, 0, ())) (List.getD (Prod.fst x1) (Int.toNat v5) (ByteArray.empty, 0, 0, 0, ()))) = Bool.false, InR IntKind.i64 (v5 + 1)]) := by kernel_rfl
theorem p5_8 (v5 : Int) (x0 : TyA0) (x1 : TyA0) : Am.runN tab ext5 false 187 [] 2000 [] [] [2, 3, 6] [0, 1] [false] (cutAt b5 4) (E5_4 v5 x0 x1) (L5_4 v5 x0 x1) = some (cutAt b5 9, E5_9 (0) (x0) (x1), L5_9 (0) (x0) (x1), [Decidable.decide (v5 < (↑(List.length (Prod.fst x0)) : Int)) = Bool.false]) := by kernel_rfl
theorem p5_9 (v6 : Int) (x0 : TyA0) (x1 : TyA0) : runF tab ext5 false 187 [] 2000 [] oks5 kds5 tys5 Try.f5.results [true, true] (cutAt b5 9) (E5_9 v6 x0 x1) (L5_9 v6 x0 x1) = some ([Dyn.mk Ty.bool Bool.false], [], [Decidable.decide (v6 < (↑(List.length (Prod.fst (Prod.snd (Prod.snd x0)))) : Int)) = Bool.true, 0 ≤ v6, v6 < (↑(List.length (Prod.fst (Prod.snd (Prod.snd x0)))) : Int), 0 ≤ v6, v6 < (↑(List.length (Prod.fst (Prod.snd (Prod.snd x1)))) : Int), (!eqD (Ty.cons (Ty.int IntKind.i64) (Ty.cons (Ty.int IntKind.i64) (Ty.cons (Ty.int IntKind.i64) Ty.unit))) (List.getD (Prod.fst (Prod.snd (Prod.snd x0))) (Int.toNat v6) (0, 0, 0, ())) (List.getD (Prod.fst (Prod.snd (Prod.snd x1))) (Int.toNat v6) (0, 0, 0, ()))) = Bool.true]) := by kernel_rfl
theorem p5_10 (v6 : Int) (x0 : TyA0) (x1 : TyA0) : Am.runN tab ext5 false 187 [] 2000 [] [] [2, 3, 6] [0, 1] [true, false] (cutAt b5 9) (E5_9 v6 x0 x1) (L5_9 v6 x0 x1) = some (cutAt b5 9, E5_9 (v6 + 1) (x0) (x1), L5_9 (v6 + 1) (x0) (x1), [Decidable.decide (v6 < (↑(List.length (Prod.fst (Prod.snd (Prod.snd x0)))) : Int)) = Bool.true, 0 ≤ v6, v6 < (↑(List.length (Prod.fst (Prod.snd (Prod.snd x0)))) : Int), 0 ≤ v6, v6 < (↑(List.length (Prod.fst (Prod.snd (Prod.snd x1)))) : Int), (!eqD (Ty.cons (Ty.int IntKind.i64) (Ty.cons (Ty.int IntKind.i64) (Ty.cons (Ty.int IntKind.i64) Ty.unit))) (List.getD (Prod.fst (Prod.snd (Prod.snd x0))) (Int.toNat v6) (0, 0, 0, ())) (List.getD (Prod.fst (Prod.snd (Prod.snd x1))) (Int.toNat v6) (0, 0, 0, ()))) = Bool.false, InR IntKind.i64 (v6 + 1)]) := by kernel_rfl
theorem p5_11 (v6 : Int) (x0 : TyA0) (x1 : TyA0) : Am.runN tab ext5 false 187 [] 2000 [] [] [2, 3, 7] [0, 1] [false] (cutAt b5 9) (E5_9 v6 x0 x1) (L5_9 v6 x0 x1) = some (cutAt b5 14, E5_14 (0) (x0) (x1), L5_14 (0) (x0) (x1), [Decidable.decide (v6 < (↑(List.length (Prod.fst (Prod.snd (Prod.snd x0)))) : Int)) = Bool.false]) := by kernel_rfl
theorem p5_12 (v7 : Int) (x0 : TyA0) (x1 : TyA0) : runF tab ext5 false 187 [] 2000 [] oks5 kds5 tys5 Try.f5.results [true, true] (cutAt b5 14) (E5_14 v7 x0 x1) (L5_14 v7 x0 x1) = some ([Dyn.mk Ty.bool Bool.false], [], [Decidable.decide (v7 < (↑(List.length (Prod.fst (Prod.snd (Prod.snd (Prod.snd x0))))) : Int)) = Bool.true, 0 ≤ v7, v7 < (↑(List.length (Prod.fst (Prod.snd (Prod.snd (Prod.snd x0))))) : Int), 0 ≤ v7, v7 < (↑(List.length (Prod.fst (Prod.snd (Prod.snd (Prod.snd x1))))) : Int), (!eqD (Ty.cons (Ty.int IntKind.i64) (Ty.cons (Ty.int IntKind.i64) (Ty.cons (Ty.int IntKind.i64) Ty.unit))) (List.getD (Prod.fst (Prod.snd (Prod.snd (Prod.snd x0)))) (Int.toNat v7) (0, 0, 0, ())) (List.getD (Prod.fst (Prod.snd (Prod.snd (Prod.snd x1)))) (Int.toNat v7) (0, 0, 0, ()))) = Bool.true]) := by kernel_rfl
theorem p5_13 (v7 : Int) (x0 : TyA0) (x1 : TyA0) : Am.runN tab ext5 false 187 [] 2000 [] [] [2, 3, 7] [0, 1] [true, false] (cutAt b5 14) (E5_14 v7 x0 x1) (L5_14 v7 x0 x1) = some (cutAt b5 14, E5_14 (v7 + 1) (x0) (x1), L5_14 (v7 + 1) (x0) (x1), [Decidable.decide (v7 < (↑(List.length (Prod.fst (Prod.snd (Prod.snd (Prod.snd x0))))) : Int)) = Bool.true, 0 ≤ v7, v7 < (↑(List.length (Prod.fst (Prod.snd (Prod.snd (Prod.snd x0))))) : Int), 0 ≤ v7, v7 < (↑(List.length (Prod.fst (Prod.snd (Prod.snd (Prod.snd x1))))) : Int), (!eqD (Ty.cons (Ty.int IntKind.i64) (Ty.cons (Ty.int IntKind.i64) (Ty.cons (Ty.int IntKind.i64) Ty.unit))) (List.getD (Prod.fst (Prod.snd (Prod.snd (Prod.snd x0)))) (Int.toNat v7) (0, 0, 0, ())) (List.getD (Prod.fst (Prod.snd (Prod.snd (Prod.snd x1)))) (Int.toNat v7) (0, 0, 0, ()))) = Bool.false, InR IntKind.i64 (v7 + 1)]) := by kernel_rfl
theorem p5_14 (v7 : Int) (x0 : TyA0) (x1 : TyA0) : Am.runN tab ext5 false 187 [] 2000 [] [] [2, 3, 8] [0, 1] [false] (cutAt b5 14) (E5_14 v7 x0 x1) (L5_14 v7 x0 x1) = some (cutAt b5 19, E5_19 (0) (x0) (x1), L5_19 (0) (x0) (x1), [Decidable.decide (v7 < (↑(List.length (Prod.fst (Prod.snd (Prod.snd (Prod.snd x0))))) : Int)) = Bool.false]) := by kernel_rfl
theorem p5_15 (v8 : Int) (x0 : TyA0) (x1 : TyA0) : runF tab ext5 false 187 [] 2000 [] oks5 kds5 tys5 Try.f5.results [true, true] (cutAt b5 19) (E5_19 v8 x0 x1) (L5_19 v8 x0 x1) = some ([Dyn.mk Ty.bool Bool.false], [], [Decidable.decide (v8 < (↑(List.length (Prod.fst (Prod.snd (Prod.snd (Prod.snd (Prod.snd (Prod.snd (Prod.snd x0)))))))) : Int)) = Bool.true, 0 ≤ v8, v8 < (↑(List.length (Prod.fst (Prod.snd (Prod.snd (Prod.snd (Prod.snd (Prod.snd (Prod.snd x0)))))))) : Int), 0 ≤ v8, v8 < (↑(List.length (Prod.fst (Prod.snd (Prod.snd (Prod.snd (Prod.snd (Prod.snd (Prod.snd x1)))))))) : Int), (!eqD (Ty.cons Ty.str (Ty.cons (Ty.int IntKind.i64) (Ty.cons (Ty.int IntKind.i64) Ty.unit))) (List.getD (Prod.fst (Prod.snd (Prod.snd (Prod.snd (Prod.snd (Prod.snd (Prod.snd x0))))))) (Int.toNat v8) (ByteArray.empty, 0, 0, ())) (List.getD (Prod.fst (Prod.snd (Prod.snd (Prod.snd (Prod.snd (Prod.snd (Prod.snd x1))))))) (Int.toNat v8) (ByteArray.empty, 0, 0, ()))) = Bool.true]) := by kernel_rfl
theorem p5_16 (v8 : Int) (x0 : TyA0) (x1 : TyA0) : Am.runN tab ext5 false 187 [] 2000 [] [] [2, 3, 8] [0, 1] [true, false] (cutAt b5 19) (E5_19 v8 x0 x1) (L5_19 v8 x0 x1) = some (cutAt b5 19, E5_19 (v8 + 1) (x0) (x1), L5_19 (v8 + 1) (x0) (x1), [Decidable.decide (v8 < (↑(List.length (Prod.fst (Prod.snd (Prod.snd (Prod.snd (Prod.snd (Prod.snd (Prod.snd x0)))))))) : Int)) = Bool.true, 0 ≤ v8, v8 < (↑(List.length (Prod.fst (Prod.snd (Prod.snd (Prod.snd (Prod.snd (Prod.snd (Prod.snd x0)))))))) : Int), 0 ≤ v8, v8 < (↑(List.length (Prod.fst (Prod.snd (Prod.snd (Prod.snd (Prod.snd (Prod.snd (Prod.snd x1)))))))) : Int), (!eqD (Ty.cons Ty.str (Ty.cons (Ty.int IntKind.i64) (Ty.cons (Ty.int IntKind.i64) Ty.unit))) (List.getD (Prod.fst (Prod.snd (Prod.snd (Prod.snd (Prod.snd (Prod.snd (Prod.snd x0))))))) (Int.toNat v8) (ByteArray.empty, 0, 0, ())) (List.getD (Prod.fst (Prod.snd (Prod.snd (Prod.snd (Prod.snd (Prod.snd (Prod.snd x1))))))) (Int.toNat v8) (ByteArray.empty, 0, 0, ()))) = Bool.false, InR IntKind.i64 (v8 + 1)]) := by kernel_rfl
theorem p5_17 (v8 : Int) (x0 : TyA0) (x1 : TyA0) : Am.runN tab ext5 false 187 [] 2000 [] [] [2, 3, 9] [0, 1] [false] (cutAt b5 19) (E5_19 v8 x0 x1) (L5_19 v8 x0 x1) = some (cutAt b5 24, E5_24 (0) (x0) (x1), L5_24 (0) (x0) (x1), [Decidable.decide (v8 < (↑(List.length (Prod.fst (Prod.snd (Prod.snd (Prod.snd (Prod.snd (Prod.snd (Prod.snd x0)))))))) : Int)) = Bool.false]) := by kernel_rfl
theorem p5_18 (v9 : Int) (x0 : TyA0) (x1 : TyA0) : runF tab ext5 false 187 [] 2000 [] oks5 kds5 tys5 Try.f5.results [true, true] (cutAt b5 24) (E5_24 v9 x0 x1) (L5_24 v9 x0 x1) = some ([Dyn.mk Ty.bool Bool.false], [], [Decidable.decide (v9 < (↑(List.length (Prod.fst (Prod.snd (Prod.snd (Prod.snd (Prod.snd (Prod.snd (Prod.snd (Prod.snd (Prod.snd x0)))))))))) : Int)) = Bool.true, 0 ≤ v9, v9 < (↑(List.length (Prod.fst (Prod.snd (Prod.snd (Prod.snd (Prod.snd (Prod.snd (Prod.snd (Prod.snd (Prod.snd x0)))))))))) : Int), 0 ≤ v9, v9 < (↑(List.length (Prod.fst (Prod.snd (Prod.snd (Prod.snd (Prod.snd (Prod.snd (Prod.snd (Prod.snd (Prod.snd x1)))))))))) : Int), (!eqD (Ty.cons Ty.str (Ty.cons (Ty.int IntKind.i64) (Ty.cons (Ty.int IntKind.i64) (Ty.cons (Ty.int IntKind.i64) Ty.unit)))) (List.getD (Prod.fst (Prod.snd (Prod.snd (Prod.snd (Prod.snd (Prod.snd (Prod.snd (Prod.snd (Prod.snd x0))))))))) (Int.toNat v9) (ByteArray.empty, 0, 0, 0, ())) (List.getD (Prod.fst (Prod.snd (Prod.snd (Prod.snd (Prod.snd (Prod.snd (Prod.snd (Prod.snd (Prod.snd x1))))))))) (Int.toNat v9) (ByteArray.empty, 0, 0, 0, ()))) = Bool.true]) := by kernel_rfl
theorem p5_19 (v9 : Int) (x0 : TyA0) (x1 : TyA0) : Am.runN tab ext5 false 187 [] 2000 [] [] [2, 3, 9] [0, 1] [true, false] (cutAt b5 24) (E5_24 v9 x0 x1) (L5_24 v9 x0 x1) = some (cutAt b5 24, E5_24 (v9 + 1) (x0) (x1), L5_24 (v9 + 1) (x0) (x1), [Decidable.decide (v9 < (↑(List.length (Prod.fst (Prod.snd (Prod.snd (Prod.snd (Prod.snd (Prod.snd (Prod.snd (Prod.snd (Prod.snd x0)))))))))) : Int)) = Bool.true, 0 ≤ v9, v9 < (↑(List.length (Prod.fst (Prod.snd (Prod.snd (Prod.snd (Prod.snd (Prod.snd (Prod.snd (Prod.snd (Prod.snd x0)))))))))) : Int), 0 ≤ v9, v9 < (↑(List.length (Prod.fst (Prod.snd (Prod.snd (Prod.snd (Prod.snd (Prod.snd (Prod.snd (Prod.snd (Prod.snd x1)))))))))) : Int), (!eqD (Ty.cons Ty.str (Ty.cons (Ty.int IntKind.i64) (Ty.cons (Ty.int IntKind.i64) (Ty.cons (Ty.int IntKind.i64) Ty.unit)))) (List.getD (Prod.fst (Prod.snd (Prod.snd (Prod.snd (Prod.snd (Prod.snd (Prod.snd (Prod.snd (Prod.snd x0))))))))) (Int.toNat v9) (ByteArray.empty, 0, 0, 0, ())) (List.getD (Prod.fst (Prod.snd (Prod.snd (Prod.snd (Prod.snd (Prod.snd (Prod.snd (Prod.snd (Prod.snd x1))))))))) (Int.toNat v9) (ByteArray.empty, 0, 0, 0, ()))) = Bool.false, InR IntKind.i64 (v9 + 1)]) := by kernel_rfl
theorem p5_20 (v9 : Int) (x0 : TyA0) (x1 : TyA0) : Am.runN tab ext5 false 187 [] 2000 [] [] [2, 3, 10] [0, 1] [false] (cutAt b5 24) (E5_24 v9 x0 x1) (L5_24 v9 x0 x1) = some (cutAt b5 29, E5_29 (0) (x0) (x1), L5_29 (0) (x0) (x1), [Decidable.decide (v9 < (↑(List.length (Prod.fst (Prod.snd (Prod.snd (Prod.snd (Prod.snd (Prod.snd (Prod.snd (Prod.snd (Prod.snd x0)))))))))) : Int)) = Bool.false]) := by kernel_rfl
theorem p5_21 (v10 : Int) (x0 : TyA0) (x1 : TyA0) : runF tab ext5 false 187 [] 2000 [] oks5 kds5 tys5 Try.f5.results [true, true] (cutAt b5 29) (E5_29 v10 x0 x1) (L5_29 v10 x0 x1) = some ([Dyn.mk Ty.bool Bool.false], [], [Decidable.decide (v10 < (↑(List.length (Prod.fst (Prod.snd (Prod.snd (Prod.snd (Prod.snd (Prod.snd (Prod.snd (Prod.snd (Prod.snd (Prod.snd x0))))))))))) : Int)) = Bool.true, 0 ≤ v10, v10 < (↑(List.length (Prod.fst (Prod.snd (Prod.snd (Prod.snd (Prod.snd (Prod.snd (Prod.snd (Prod.snd (Prod.snd (Prod.snd x0))))))))))) : Int), 0 ≤ v10, v10 < (↑(List.length (Prod.fst (Prod.snd (Prod.snd (Prod.snd (Prod.snd (Prod.snd (Prod.snd (Prod.snd (Prod.snd (Prod.snd x1))))))))))) : Int), (!eqD (Ty.cons (Ty.int IntKind.i64) (Ty.cons (Ty.int IntKind.i64) (Ty.cons (Ty.int IntKind.i64) Ty.unit))) (List.getD (Prod.fst (Prod.snd (Prod.snd (Prod.snd (Prod.snd (Prod.snd (Prod.snd (Prod.snd (Prod.snd (Prod.snd x0)))))))))) (Int.toNat v10) (0, 0, 0, ())) (List.getD (Prod.fst (Prod.snd (Prod.snd (Prod.snd (Prod.snd (Prod.snd (Prod.snd (Prod.snd (Prod.snd (Prod.snd x1)))))))))) (Int.toNat v10) (0, 0, 0, ()))) = Bool.true]) := by kernel_rfl
theorem p5_22 (v10 : Int) (x0 : TyA0) (x1 : TyA0) : Am.runN tab ext5 false 187 [] 2000 [] [] [2, 3, 10] [0, 1] [true, false] (cutAt b5 29) (E5_29 v10 x0 x1) (L5_29 v10 x0 x1) = some (cutAt b5 29, E5_29 (v10 + 1) (x0) (x1), L5_29 (v10 + 1) (x0) (x1), [Decidable.decide (v10 < (↑(List.length (Prod.fst (Prod.snd (Prod.snd (Prod.snd (Prod.snd (Prod.snd (Prod.snd (Prod.snd (Prod.snd (Prod.snd x0))))))))))) : Int)) = Bool.true, 0 ≤ v10, v10 < (↑(List.length (Prod.fst (Prod.snd (Prod.snd (Prod.snd (Prod.snd (Prod.snd (Prod.snd (Prod.snd (Prod.snd (Prod.snd x0))))))))))) : Int), 0 ≤ v10, v10 < (↑(List.length (Prod.fst (Prod.snd (Prod.snd (Prod.snd (Prod.snd (Prod.snd (Prod.snd (Prod.snd (Prod.snd (Prod.snd x1))))))))))) : Int), (!eqD (Ty.cons (Ty.int IntKind.i64) (Ty.cons (Ty.int IntKind.i64) (Ty.cons (Ty.int IntKind.i64) Ty.unit))) (List.getD (Prod.fst (Prod.snd (Prod.snd (Prod.snd (Prod.snd (Prod.snd (Prod.snd (Prod.snd (Prod.snd (Prod.snd x0)))))))))) (Int.toNat v10) (0, 0, 0, ())) (List.getD (Prod.fst (Prod.snd (Prod.snd (Prod.snd (Prod.snd (Prod.snd (Prod.snd (Prod.snd (Prod.snd (Prod.snd x1)))))))))) (Int.toNat v10) (0, 0, 0, ()))) = Bool.false, InR IntKind.i64 (v10 + 1)]) := by kernel_rfl
theorem p5_23 (v10 : Int) (x0 : TyA0) (x1 : TyA0) : Am.runN tab ext5 false 187 [] 2000 [] [] [2, 3, 11] [0, 1] [false] (cutAt b5 29) (E5_29 v10 x0 x1) (L5_29 v10 x0 x1) = some (cutAt b5 34, E5_34 (0) (x0) (x1), L5_34 (0) (x0) (x1), [Decidable.decide (v10 < (↑(List.length (Prod.fst (Prod.snd (Prod.snd (Prod.snd (Prod.snd (Prod.snd (Prod.snd (Prod.snd (Prod.snd (Prod.snd x0))))))))))) : Int)) = Bool.false]) := by kernel_rfl
theorem p5_24 (v11 : Int) (x0 : TyA0) (x1 : TyA0) : runF tab ext5 false 187 [] 2000 [] oks5 kds5 tys5 Try.f5.results [true, true] (cutAt b5 34) (E5_34 v11 x0 x1) (L5_34 v11 x0 x1) = some ([Dyn.mk Ty.bool Bool.false], [], [Decidable.decide (v11 < (↑(List.length (Prod.fst (Prod.snd (Prod.snd (Prod.snd (Prod.snd (Prod.snd (Prod.snd (Prod.snd (Prod.snd (Prod.snd (Prod.snd x0)))))))))))) : Int)) = Bool.true, 0 ≤ v11, v11 < (↑(List.length (Prod.fst (Prod.snd (Prod.snd (Prod.snd (Prod.snd (Prod.snd (Prod.snd (Prod.snd (Prod.snd (Prod.snd (Prod.snd x0)))))))))))) : Int), 0 ≤ v11, v11 < (↑(List.length (Prod.fst (Prod.snd (Prod.snd (Prod.snd (Prod.snd (Prod.snd (Prod.snd (Prod.snd (Prod.snd (Prod.snd (Prod.snd x1)))))))))))) : Int), (!eqD (Ty.cons Ty.str (Ty.cons (Ty.int IntKind.i64) (Ty.cons (Ty.int IntKind.i64) Ty.unit))) (List.getD (Prod.fst (Prod.snd (Prod.snd (Prod.snd (Prod.snd (Prod.snd (Prod.snd (Prod.snd (Prod.snd (Prod.snd (Prod.snd x0))))))))))) (Int.toNat v11) (ByteArray.empty, 0, 0, ())) (List.getD (Prod.fst (Prod.snd (Prod.snd (Prod.snd (Prod.snd (Prod.snd (Prod.snd (Prod.snd (Prod.snd (Prod.snd (Prod.snd x1))))))))))) (Int.toNat v11) (ByteArray.empty, 0, 0, ()))) = Bool.true]) := by kernel_rfl
theorem p5_25 (v11 : Int) (x0 : TyA0) (x1 : TyA0) : Am.runN tab ext5 false 187 [] 2000 [] [] [2, 3, 11] [0, 1] [true, false] (cutAt b5 34) (E5_34 v11 x0 x1) (L5_34 v11 x0 x1) = some (cutAt b5 34, E5_34 (v11 + 1) (x0) (x1), L5_34 (v11 + 1) (x0) (x1), [Decidable.decide (v11 < (↑(List.length (Prod.fst (Prod.snd (Prod.snd (Prod.snd (Prod.snd (Prod.snd (Prod.snd (Prod.snd (Prod.snd (Prod.snd (Prod.snd x0)))))))))))) : Int)) = Bool.true, 0 ≤ v11, v11 < (↑(List.length (Prod.fst (Prod.snd (Prod.snd (Prod.snd (Prod.snd (Prod.snd (Prod.snd (Prod.snd (Prod.snd (Prod.snd (Prod.snd x0)))))))))))) : Int), 0 ≤ v11, v11 < (↑(List.length (Prod.fst (Prod.snd (Prod.snd (Prod.snd (Prod.snd (Prod.snd (Prod.snd (Prod.snd (Prod.snd (Prod.snd (Prod.snd x1)))))))))))) : Int), (!eqD (Ty.cons Ty.str (Ty.cons (Ty.int IntKind.i64) (Ty.cons (Ty.int IntKind.i64) Ty.unit))) (List.getD (Prod.fst (Prod.snd (Prod.snd (Prod.snd (Prod.snd (Prod.snd (Prod.snd (Prod.snd (Prod.snd (Prod.snd (Prod.snd x0))))))))))) (Int.toNat v11) (ByteArray.empty, 0, 0, ())) (List.getD (Prod.fst (Prod.snd (Prod.snd (Prod.snd (Prod.snd (Prod.snd (Prod.snd (Prod.snd (Prod.snd (Prod.snd (Prod.snd x1))))))))))) (Int.toNat v11) (ByteArray.empty, 0, 0, ()))) = Bool.false, InR IntKind.i64 (v11 + 1)]) := by kernel_rfl
theorem p5_26 (v11 : Int) (x0 : TyA0) (x1 : TyA0) : Am.runN tab ext5 false 187 [] 2000 [] [] [2, 3, 12] [0, 1] [false] (cutAt b5 34) (E5_34 v11 x0 x1) (L5_34 v11 x0 x1) = some (cutAt b5 39, E5_39 (0) (x0) (x1), L5_39 (0) (x0) (x1), [Decidable.decide (v11 < (↑(List.length (Prod.fst (Prod.snd (Prod.snd (Prod.snd (Prod.snd (Prod.snd (Prod.snd (Prod.snd (Prod.snd (Prod.snd (Prod.snd x0)))))))))))) : Int)) = Bool.false]) := by kernel_rfl
theorem p5_27 (v12 : Int) (x0 : TyA0) (x1 : TyA0) : runF tab ext5 false 187 [] 2000 [] oks5 kds5 tys5 Try.f5.results [true, true] (cutAt b5 39) (E5_39 v12 x0 x1) (L5_39 v12 x0 x1) = some ([Dyn.mk Ty.bool Bool.false], [], [Decidable.decide (v12 < (↑(List.length (Prod.fst (Prod.snd (Prod.snd (Prod.snd (Prod.snd (Prod.snd (Prod.snd (Prod.snd (Prod.snd (Prod.snd (Prod.snd (Prod.snd x0))))))))))))) : Int)) = Bool.true, 0 ≤ v12, v12 < (↑(List.length (Prod.fst (Prod.snd (Prod.snd (Prod.snd (Prod.snd (Prod.snd (Prod.snd (Prod.snd (Prod.snd (Prod.snd (Prod.snd (Prod.snd x0))))))))))))) : Int), 0 ≤ v12, v12 < (↑(List.length (Prod.fst (Prod.snd (Prod.snd (Prod.snd (Prod.snd (Prod.snd (Prod.snd (Prod.snd (Prod.snd (Prod.snd (Prod.snd (Prod.snd x1))))))))))))) : Int), (!eqD (Ty.cons Ty.str (Ty.cons (Ty.int IntKind.i64) (Ty.cons (Ty.int IntKind.i64) Ty.unit))) (List.getD (Prod.fst (Prod.snd (Prod.snd (Prod.snd (Prod.snd (Prod.snd (Prod.snd (Prod.snd (Prod.snd (Prod.snd (Prod.snd (Prod.snd x0)))))))))))) (Int.toNat v12) (ByteArray.empty, 0, 0, ())) (List.getD (Prod.fst (Prod.snd (Prod.snd (Prod.snd (Prod.snd (Prod.snd (Prod.snd (Prod.snd (Prod.snd (Prod.snd (Prod.snd (Prod.snd x1)))))))))))) (Int.toNat v12) (ByteArray.empty, 0, 0, ()))) = Bool.true]) := by kernel_rfl
theorem p5_28 (v12 : Int) (x0 : TyA0) (x1 : TyA0) : Am.runN tab ext5 false 187 [] 2000 [] [] [2, 3, 12] [0, 1] [true, false] (cutAt b5 39) (E5_39 v12 x0 x1) (L5_39 v12 x0 x1) = some (cutAt b5 39, E5_39 (v12 + 1) (x0) (x1), L5_39 (v12 + 1) (x0) (x1), [Decidable.decide (v12 < (↑(List.length (Prod.fst (Prod.snd (Prod.snd (Prod.snd (Prod.snd (Prod.snd (Prod.snd (Prod.snd (Prod.snd (Prod.snd (Prod.snd (Prod.snd x0))))))))))))) : Int)) = Bool.true, 0 ≤ v12, v12 < (↑(List.length (Prod.fst (Prod.snd (Prod.snd (Prod.snd (Prod.snd (Prod.snd (Prod.snd (Prod.snd (Prod.snd (Prod.snd (Prod.snd (Prod.snd x0))))))))))))) : Int), 0 ≤ v12, v12 < (↑(List.length (Prod.fst (Prod.snd (Prod.snd (Prod.snd (Prod.snd (Prod.snd (Prod.snd (Prod.snd (Prod.snd (Prod.snd (Prod.snd (Prod.snd x1))))))))))))) : Int), (!eqD (Ty.cons Ty.str (Ty.cons (Ty.int IntKind.i64) (Ty.cons (Ty.int IntKind.i64) Ty.unit))) (List.getD (Prod.fst (Prod.snd (Prod.snd (Prod.snd (Prod.snd (Prod.snd (Prod.snd (Prod.snd (Prod.snd (Prod.snd (Prod.snd (Prod.snd x0)))))))))))) (Int.toNat v12) (ByteArray.empty, 0, 0, ())) (List.getD (Prod.fst (Prod.snd (Prod.snd (Prod.snd (Prod.snd (Prod.snd (Prod.snd (Prod.snd (Prod.snd (Prod.snd (Prod.snd (Prod.snd x1)))))))))))) (Int.toNat v12) (ByteArray.empty, 0, 0, ()))) = Bool.false, InR IntKind.i64 (v12 + 1)]) := by kernel_rfl
theorem p5_29 (v12 : Int) (x0 : TyA0) (x1 : TyA0) : runF tab ext5 false 187 [] 2000 [] oks5 kds5 tys5 Try.f5.results [false] (cutAt b5 39) (E5_39 v12 x0 x1) (L5_39 v12 x0 x1) = some ([Dyn.mk Ty.bool Bool.true], [], [Decidable.decide (v12 < (↑(List.length (Prod.fst (Prod.snd (Prod.snd (Prod.snd (Prod.snd (Prod.snd (Prod.snd (Prod.snd (Prod.snd (Prod.snd (Prod.snd (Prod.snd x0))))))))))))) : Int)) = Bool.false]) := by kernel_rfl
theorem snd5 : ∀ n, (∀ (x0 : TyA0) (x1 : TyA0) ds, R5 n x0 x1 ds → ∀ K q, AtV Try.prog 5 (PostR kds5 oks5 ds [] [] q K) 187 K q [] [.code b5] (entE 0 0 sig5 (x0, x1, ())) (entL sig5 (x0, x1, ()))) ∧ (∀ (v5 : Int) (x0 : TyA0) (x1 : TyA0) ds, R5_4 n v5 x0 x1 ds → ∀ K q, AtV Try.prog 5 (PostR kds5 oks5 ds [] [] q K) 187 K q [] (cutAt b5 4) (E5_4 v5 x0 x1) (L5_4 v5 x0 x1)) ∧ (∀ (v6 : Int) (x0 : TyA0) (x1 : TyA0) ds, R5_9 n v6 x0 x1 ds → ∀ K q, AtV Try.prog 5 (PostR kds5 oks5 ds [] [] q K) 187 K q [] (cutAt b5 9) (E5_9 v6 x0 x1) (L5_9 v6 x0 x1)) ∧ (∀ (v7 : Int) (x0 : TyA0) (x1 : TyA0) ds, R5_14 n v7 x0 x1 ds → ∀ K q, AtV Try.prog 5 (PostR kds5 oks5 ds [] [] q K) 187 K q [] (cutAt b5 14) (E5_14 v7 x0 x1) (L5_14 v7 x0 x1)) ∧ (∀ (v8 : Int) (x0 : TyA0) (x1 : TyA0) ds, R5_19 n v8 x0 x1 ds → ∀ K q, AtV Try.prog 5 (PostR kds5 oks5 ds [] [] q K) 187 K q [] (cutAt b5 19) (E5_19 v8 x0 x1) (L5_19 v8 x0 x1)) ∧ (∀ (v9 : Int) (x0 : TyA0) (x1 : TyA0) ds, R5_24 n v9 x0 x1 ds → ∀ K q, AtV Try.prog 5 (PostR kds5 oks5 ds [] [] q K) 187 K q [] (cutAt b5 24) (E5_24 v9 x0 x1) (L5_24 v9 x0 x1)) ∧ (∀ (v10 : Int) (x0 : TyA0) (x1 : TyA0) ds, R5_29 n v10 x0 x1 ds → ∀ K q, AtV Try.prog 5 (PostR kds5 oks5 ds [] [] q K) 187 K q [] (cutAt b5 29) (E5_29 v10 x0 x1) (L5_29 v10 x0 x1)) ∧ (∀ (v11 : Int) (x0 : TyA0) (x1 : TyA0) ds, R5_34 n v11 x0 x1 ds → ∀ K q, AtV Try.prog 5 (PostR kds5 oks5 ds [] [] q K) 187 K q [] (cutAt b5 34) (E5_34 v11 x0 x1) (L5_34 v11 x0 x1)) ∧ (∀ (v12 : Int) (x0 : TyA0) (x1 : TyA0) ds, R5_39 n v12 x0 x1 ds → ∀ K q, AtV Try.prog 5 (PostR kds5 oks5 ds [] [] q K) 187 K q [] (cutAt b5 39) (E5_39 v12 x0 x1) (L5_39 v12 x0 x1)) := by
  intro n
  induction n with
  | zero => exact ⟨fun _ _ _ h => by simp only [R5] at h, fun _ _ _ _ h => by simp only [R5_4] at h, fun _ _ _ _ h => by simp only [R5_9] at h, fun _ _ _ _ h => by simp only [R5_14] at h, fun _ _ _ _ h => by simp only [R5_19] at h, fun _ _ _ _ h => by simp only [R5_24] at h, fun _ _ _ _ h => by simp only [R5_29] at h, fun _ _ _ _ h => by simp only [R5_34] at h, fun _ _ _ _ h => by simp only [R5_39] at h⟩
  | succ n ih =>
  obtain ⟨ih, ih4, ih9, ih14, ih19, ih24, ih29, ih34, ih39⟩ := ih
  refine ⟨?_, ?_, ?_, ?_, ?_, ?_, ?_, ?_, ?_⟩
  · intro x0 x1 ds h K q
    rw [R5] at h
    by_cases b0 : (!g17_0 x0 x1) = true
    · rw [if_pos b0] at h
      subst h
      exact AtV.fin Try.func5 tabOk ext5Ok mixed (p5_0 x0 x1) ⟨trivial, b0, rfl, rfl, rfl, rfl, trivial⟩
    · rw [if_neg b0] at h
      replace b0 := Bool.eq_false_iff.2 b0
      by_cases b1 : (!eqD (Ty.cons (Ty.int IntKind.i64) (Ty.cons (Ty.int IntKind.i64) (Ty.cons (Ty.int IntKind.i64) (Ty.cons (Ty.int IntKind.i64) Ty.unit)))) (Prod.fst (Prod.snd x0)) (Prod.fst (Prod.snd x1))) = true
      · rw [if_pos b1] at h
        subst h
        exact AtV.fin Try.func5 tabOk ext5Ok mixed (p5_1 x0 x1) ⟨trivial, b0, b1, rfl, rfl, rfl, trivial⟩
      · rw [if_neg b1] at h
        replace b1 := Bool.eq_false_iff.2 b1
        by_cases b2 : (!eqD (Ty.cons (Ty.int IntKind.i64) (Ty.cons (Ty.int IntKind.i64) (Ty.cons (Ty.int IntKind.i64) Ty.unit))) (Prod.fst (Prod.snd (Prod.snd (Prod.snd (Prod.snd x0))))) (Prod.fst (Prod.snd (Prod.snd (Prod.snd (Prod.snd x1)))))) = true
        · rw [if_pos b2] at h
          subst h
          exact AtV.fin Try.func5 tabOk ext5Ok mixed (p5_2 x0 x1) ⟨trivial, b0, b1, b2, rfl, rfl, trivial⟩
        · rw [if_neg b2] at h
          replace b2 := Bool.eq_false_iff.2 b2
          by_cases b3 : (!eqD (Ty.cons (Ty.int IntKind.i64) (Ty.cons (Ty.int IntKind.i64) (Ty.cons (Ty.int IntKind.i64) Ty.unit))) (Prod.fst (Prod.snd (Prod.snd (Prod.snd (Prod.snd (Prod.snd x0)))))) (Prod.fst (Prod.snd (Prod.snd (Prod.snd (Prod.snd (Prod.snd x1))))))) = true
          · rw [if_pos b3] at h
            subst h
            exact AtV.fin Try.func5 tabOk ext5Ok mixed (p5_3 x0 x1) ⟨trivial, b0, b1, b2, b3, rfl, trivial⟩
          · rw [if_neg b3] at h
            replace b3 := Bool.eq_false_iff.2 b3
            by_cases b4 : (!eqD (Ty.cons (Ty.int IntKind.i64) (Ty.cons (Ty.int IntKind.i64) (Ty.cons (Ty.int IntKind.i64) (Ty.cons (Ty.int IntKind.i64) Ty.unit)))) (Prod.fst (Prod.snd (Prod.snd (Prod.snd (Prod.snd (Prod.snd (Prod.snd (Prod.snd x0)))))))) (Prod.fst (Prod.snd (Prod.snd (Prod.snd (Prod.snd (Prod.snd (Prod.snd (Prod.snd x1))))))))) = true
            · rw [if_pos b4] at h
              subst h
              exact AtV.fin Try.func5 tabOk ext5Ok mixed (p5_4 x0 x1) ⟨trivial, b0, b1, b2, b3, b4, trivial⟩
            · rw [if_neg b4] at h
              replace b4 := Bool.eq_false_iff.2 b4
              exact AtV.runN tabOk ext5Ok mixed (p5_5 x0 x1) ⟨trivial, b0, b1, b2, b3, b4, trivial⟩ (ih4 _ _ _ _ h K q)

  · intro v5 x0 x1 ds h K q
    rw [R5_4] at h
    by_cases b0 : (Decidable.decide (v5 < (↑(List.length (Prod.fst x0)) : Int))) = true
    · rw [if_pos b0] at h
      obtain ⟨s0, s1, h⟩ := h
      obtain ⟨s2, s3, h⟩ := h
      by_cases b1 : (!eqD (Ty.cons Ty.str (Ty.cons (Ty.int IntKind.i64) (Ty.cons (Ty.int IntKind.i64) (Ty.cons (Ty.int IntKind.i64) Ty.unit)))) (List.getD (Prod.fst x0) (Int.toNat v5) (ByteArray.empty, 0, 0, 0, ())) (List.getD (Prod.fst x1) (Int.toNat v5) (ByteArray.empty, 0, 0, 0, ()))) = true
      · rw [if_pos b1] at h
        subst h
        exact AtV.fin Try.func5 tabOk ext5Ok mixed (p5_6 v5 x0 x1) ⟨b0, s0, s1, s2, s3, b1, trivial⟩
      · rw [if_neg b1] at h
        replace b1 := Bool.eq_false_iff.2 b1
        obtain ⟨s4, h⟩ := h
        exact AtV.runN tabOk ext5Ok mixed (p5_7 v5 x0 x1) ⟨b0, s0, s1, s2, s3, b1, s4, trivial⟩ (ih4 _ _ _ _ h K q)
    · rw [if_neg b0] at h
      replace b0 := Bool.eq_false_iff.2 b0
      exact AtV.runN tabOk ext5Ok mixed (p5_8 v5 x0 x1) ⟨b0, trivial⟩ (ih9 _ _ _ _ h K q)

  · intro v6 x0 x1 ds h K q
    rw [R5_9] at h
    by_cases b0 : (Decidable.decide (v6 < (↑(List.length (Prod.fst (Prod.snd (Prod.snd x0)))) : Int))) = true
    · rw [if_pos b0] at h
      obtain ⟨s0, s1, h⟩ := h
      obtain ⟨s2, s3, h⟩ := h
      by_cases b1 : (!eqD (Ty.cons (Ty.int IntKind.i64) (Ty.cons (Ty.int IntKind.i64) (Ty.cons (Ty.int IntKind.i64) Ty.unit))) (List.getD (Prod.fst (Prod.snd (Prod.snd x0))) (Int.toNat v6) (0, 0, 0, ())) (List.getD (Prod.fst (Prod.snd (Prod.snd x1))) (Int.toNat v6) (0, 0, 0, ()))) = true
      · rw [if_pos b1] at h
        subst h
        exact AtV.fin Try.func5 tabOk ext5Ok mixed (p5_9 v6 x0 x1) ⟨b0, s0, s1, s2, s3, b1, trivial⟩
      · rw [if_neg b1] at h
        replace b1 := Bool.eq_false_iff.2 b1
        obtain ⟨s4, h⟩ := h
        exact AtV.runN tabOk ext5Ok mixed (p5_10 v6 x0 x1) ⟨b0, s0, s1, s2, s3, b1, s4, trivial⟩ (ih9 _ _ _ _ h K q)
    · rw [if_neg b0] at h
      replace b0 := Bool.eq_false_iff.2 b0
      exact AtV.runN tabOk ext5Ok mixed (p5_11 v6 x0 x1) ⟨b0, trivial⟩ (ih14 _ _ _ _ h K q)

  · intro v7 x0 x1 ds h K q
    rw [R5_14] at h
    by_cases b0 : (Decidable.decide (v7 < (↑(List.length (Prod.fst (Prod.snd (Prod.snd (Prod.snd x0))))) : Int))) = true
    · rw [if_pos b0] at h
      obtain ⟨s0, s1, h⟩ := h
      obtain ⟨s2, s3, h⟩ := h
      by_cases b1 : (!eqD (Ty.cons (Ty.int IntKind.i64) (Ty.cons (Ty.int IntKind.i64) (Ty.cons (Ty.int IntKind.i64) Ty.unit))) (List.getD (Prod.fst (Prod.snd (Prod.snd (Prod.snd x0)))) (Int.toNat v7) (0, 0, 0, ())) (List.getD (Prod.fst (Prod.snd (Prod.snd (Prod.snd x1)))) (Int.toNat v7) (0, 0, 0, ()))) = true
      · rw [if_pos b1] at h
        subst h
        exact AtV.fin Try.func5 tabOk ext5Ok mixed (p5_12 v7 x0 x1) ⟨b0, s0, s1, s2, s3, b1, trivial⟩
      · rw [if_neg b1] at h
        replace b1 := Bool.eq_false_iff.2 b1
        obtain ⟨s4, h⟩ := h
        exact AtV.runN tabOk ext5Ok mixed (p5_13 v7 x0 x1) ⟨b0, s0, s1, s2, s3, b1, s4, trivial⟩ (ih14 _ _ _ _ h K q)
    · rw [if_neg b0] at h
      replace b0 := Bool.eq_false_iff.2 b0
      exact AtV.runN tabOk ext5Ok mixed (p5_14 v7 x0 x1) ⟨b0, trivial⟩ (ih19 _ _ _ _ h K q)

  · intro v8 x0 x1 ds h K q
    rw [R5_19] at h
    by_cases b0 : (Decidable.decide (v8 < (↑(List.length (Prod.fst (Prod.snd (Prod.snd (Prod.snd (Prod.snd (Prod.snd (Prod.snd x0)))))))) : Int))) = true
    · rw [if_pos b0] at h
      obtain ⟨s0, s1, h⟩ := h
      obtain ⟨s2, s3, h⟩ := h
      by_cases b1 : (!eqD (Ty.cons Ty.str (Ty.cons (Ty.int IntKind.i64) (Ty.cons (Ty.int IntKind.i64) Ty.unit))) (List.getD (Prod.fst (Prod.snd (Prod.snd (Prod.snd (Prod.snd (Prod.snd (Prod.snd x0))))))) (Int.toNat v8) (ByteArray.empty, 0, 0, ())) (List.getD (Prod.fst (Prod.snd (Prod.snd (Prod.snd (Prod.snd (Prod.snd (Prod.snd x1))))))) (Int.toNat v8) (ByteArray.empty, 0, 0, ()))) = true
      · rw [if_pos b1] at h
        subst h
        exact AtV.fin Try.func5 tabOk ext5Ok mixed (p5_15 v8 x0 x1) ⟨b0, s0, s1, s2, s3, b1, trivial⟩
      · rw [if_neg b1] at h
        replace b1 := Bool.eq_false_iff.2 b1
        obtain ⟨s4, h⟩ := h
        exact AtV.runN tabOk ext5Ok mixed (p5_16 v8 x0 x1) ⟨b0, s0, s1, s2, s3, b1, s4, trivial⟩ (ih19 _ _ _ _ h K q)
    · rw [if_neg b0] at h
      replace b0 := Bool.eq_false_iff.2 b0
      exact AtV.runN tabOk ext5Ok mixed (p5_17 v8 x0 x1) ⟨b0, trivial⟩ (ih24 _ _ _ _ h K q)

  · intro v9 x0 x1 ds h K q
    rw [R5_24] at h
    by_cases b0 : (Decidable.decide (v9 < (↑(List.length (Prod.fst (Prod.snd (Prod.snd (Prod.snd (Prod.snd (Prod.snd (Prod.snd (Prod.snd (Prod.snd x0)))))))))) : Int))) = true
    · rw [if_pos b0] at h
      obtain ⟨s0, s1, h⟩ := h
      obtain ⟨s2, s3, h⟩ := h
      by_cases b1 : (!eqD (Ty.cons Ty.str (Ty.cons (Ty.int IntKind.i64) (Ty.cons (Ty.int IntKind.i64) (Ty.cons (Ty.int IntKind.i64) Ty.unit)))) (List.getD (Prod.fst (Prod.snd (Prod.snd (Prod.snd (Prod.snd (Prod.snd (Prod.snd (Prod.snd (Prod.snd x0))))))))) (Int.toNat v9) (ByteArray.empty, 0, 0, 0, ())) (List.getD (Prod.fst (Prod.snd (Prod.snd (Prod.snd (Prod.snd (Prod.snd (Prod.snd (Prod.snd (Prod.snd x1))))))))) (Int.toNat v9) (ByteArray.empty, 0, 0, 0, ()))) = true
      · rw [if_pos b1] at h
        subst h
        exact AtV.fin Try.func5 tabOk ext5Ok mixed (p5_18 v9 x0 x1) ⟨b0, s0, s1, s2, s3, b1, trivial⟩
      · rw [if_neg b1] at h
        replace b1 := Bool.eq_false_iff.2 b1
        obtain ⟨s4, h⟩ := h
        exact AtV.runN tabOk ext5Ok mixed (p5_19 v9 x0 x1) ⟨b0, s0, s1, s2, s3, b1, s4, trivial⟩ (ih24 _ _ _ _ h K q)
    · rw [if_neg b0] at h
      replace b0 := Bool.eq_false_iff.2 b0
      exact AtV.runN tabOk ext5Ok mixed (p5_20 v9 x0 x1) ⟨b0, trivial⟩ (ih29 _ _ _ _ h K q)

  · intro v10 x0 x1 ds h K q
    rw [R5_29] at h
    by_cases b0 : (Decidable.decide (v10 < (↑(List.length (Prod.fst (Prod.snd (Prod.snd (Prod.snd (Prod.snd (Prod.snd (Prod.snd (Prod.snd (Prod.snd (Prod.snd x0))))))))))) : Int))) = true
    · rw [if_pos b0] at h
      obtain ⟨s0, s1, h⟩ := h
      obtain ⟨s2, s3, h⟩ := h
      by_cases b1 : (!eqD (Ty.cons (Ty.int IntKind.i64) (Ty.cons (Ty.int IntKind.i64) (Ty.cons (Ty.int IntKind.i64) Ty.unit))) (List.getD (Prod.fst (Prod.snd (Prod.snd (Prod.snd (Prod.snd (Prod.snd (Prod.snd (Prod.snd (Prod.snd (Prod.snd x0)))))))))) (Int.toNat v10) (0, 0, 0, ())) (List.getD (Prod.fst (Prod.snd (Prod.snd (Prod.snd (Prod.snd (Prod.snd (Prod.snd (Prod.snd (Prod.snd (Prod.snd x1)))))))))) (Int.toNat v10) (0, 0, 0, ()))) = true
      · rw [if_pos b1] at h
        subst h
        exact AtV.fin Try.func5 tabOk ext5Ok mixed (p5_21 v10 x0 x1) ⟨b0, s0, s1, s2, s3, b1, trivial⟩
      · rw [if_neg b1] at h
        replace b1 := Bool.eq_false_iff.2 b1
        obtain ⟨s4, h⟩ := h
        exact AtV.runN tabOk ext5Ok mixed (p5_22 v10 x0 x1) ⟨b0, s0, s1, s2, s3, b1, s4, trivial⟩ (ih29 _ _ _ _ h K q)
    · rw [if_neg b0] at h
      replace b0 := Bool.eq_false_iff.2 b0
      exact AtV.runN tabOk ext5Ok mixed (p5_23 v10 x0 x1) ⟨b0, trivial⟩ (ih34 _ _ _ _ h K q)

  · intro v11 x0 x1 ds h K q
    rw [R5_34] at h
    by_cases b0 : (Decidable.decide (v11 < (↑(List.length (Prod.fst (Prod.snd (Prod.snd (Prod.snd (Prod.snd (Prod.snd (Prod.snd (Prod.snd (Prod.snd (Prod.snd (Prod.snd x0)))))))))))) : Int))) = true
    · rw [if_pos b0] at h
      obtain ⟨s0, s1, h⟩ := h
      obtain ⟨s2, s3, h⟩ := h
      by_cases b1 : (!eqD (Ty.cons Ty.str (Ty.cons (Ty.int IntKind.i64) (Ty.cons (Ty.int IntKind.i64) Ty.unit))) (List.getD (Prod.fst (Prod.snd (Prod.snd (Prod.snd (Prod.snd (Prod.snd (Prod.snd (Prod.snd (Prod.snd (Prod.snd (Prod.snd x0))))))))))) (Int.toNat v11) (ByteArray.empty, 0, 0, ())) (List.getD (Prod.fst (Prod.snd (Prod.snd (Prod.snd (Prod.snd (Prod.snd (Prod.snd (Prod.snd (Prod.snd (Prod.snd (Prod.snd x1))))))))))) (Int.toNat v11) (ByteArray.empty, 0, 0, ()))) = true
      · rw [if_pos b1] at h
        subst h
        exact AtV.fin Try.func5 tabOk ext5Ok mixed (p5_24 v11 x0 x1) ⟨b0, s0, s1, s2, s3, b1, trivial⟩
      · rw [if_neg b1] at h
        replace b1 := Bool.eq_false_iff.2 b1
        obtain ⟨s4, h⟩ := h
        exact AtV.runN tabOk ext5Ok mixed (p5_25 v11 x0 x1) ⟨b0, s0, s1, s2, s3, b1, s4, trivial⟩ (ih34 _ _ _ _ h K q)
    · rw [if_neg b0] at h
      replace b0 := Bool.eq_false_iff.2 b0
      exact AtV.runN tabOk ext5Ok mixed (p5_26 v11 x0 x1) ⟨b0, trivial⟩ (ih39 _ _ _ _ h K q)

  · intro v12 x0 x1 ds h K q
    rw [R5_39] at h
    by_cases b0 : (Decidable.decide (v12 < (↑(List.length (Prod.fst (Prod.snd (Prod.snd (Prod.snd (Prod.snd (Prod.snd (Prod.snd (Prod.snd (Prod.snd (Prod.snd (Prod.snd (Prod.snd x0))))))))))))) : Int))) = true
    · rw [if_pos b0] at h
      obtain ⟨s0, s1, h⟩ := h
      obtain ⟨s2, s3, h⟩ := h
      by_cases b1 : (!eqD (Ty.cons Ty.str (Ty.cons (Ty.int IntKind.i64) (Ty.cons (Ty.int IntKind.i64) Ty.unit))) (List.getD (Prod.fst (Prod.snd (Prod.snd (Prod.snd (Prod.snd (Prod.snd (Prod.snd (Prod.snd (Prod.snd (Prod.snd (Prod.snd (Prod.snd x0)))))))))))) (Int.toNat v12) (ByteArray.empty, 0, 0, ())) (List.getD (Prod.fst (Prod.snd (Prod.snd (Prod.snd (Prod.snd (Prod.snd (Prod.snd (Prod.snd (Prod.snd (Prod.snd (Prod.snd (Prod.snd x1)))))))))))) (Int.toNat v12) (ByteArray.empty, 0, 0, ()))) = true
      · rw [if_pos b1] at h
        subst h
        exact AtV.fin Try.func5 tabOk ext5Ok mixed (p5_27 v12 x0 x1) ⟨b0, s0, s1, s2, s3, b1, trivial⟩
      · rw [if_neg b1] at h
        replace b1 := Bool.eq_false_iff.2 b1
        obtain ⟨s4, h⟩ := h
        exact AtV.runN tabOk ext5Ok mixed (p5_28 v12 x0 x1) ⟨b0, s0, s1, s2, s3, b1, s4, trivial⟩ (ih39 _ _ _ _ h K q)
    · rw [if_neg b0] at h
      replace b0 := Bool.eq_false_iff.2 b0
      subst h
      exact AtV.fin Try.func5 tabOk ext5Ok mixed (p5_29 v12 x0 x1) ⟨b0, trivial⟩



theorem loop_eqs5 {α : Type} (xs ys : List α) (d : α) (hl : xs.length = ys.length) (hm : xs.length ≤ maxLen) (R : Nat → Int → Prop) (N B : Prop)
    (hend : N → ∃ n, R n (xs.length : Int))
    (hgo : ∀ n (i : Nat), i < xs.length → xs.getD i d = ys.getD i d → InR .i64 ((i : Int) + 1) → R n ((i : Int) + 1) → R (n + 1) (i : Int))
    (hbad : ∀ n (i : Nat), i < xs.length → xs.getD i d ≠ ys.getD i d → B → R (n + 1) (i : Int)) (h1 : xs = ys → N) (h2 : xs ≠ ys → B) : ∃ n, R n 0 := by
  have key : ∀ k i : Nat, i + k = xs.length → (xs.drop i = ys.drop i → N) → (xs.drop i ≠ ys.drop i → B) → ∃ n, R n (i : Int) := by
    intro k
    induction k with
    | zero =>
      intro i hi g1 g2
      have : i = xs.length := by omega
      subst this
      exact hend (g1 (by rw [drop_end xs _ (by omega), drop_end ys _ (by omega)]))
    | succ k ih =>
      intro i hi g1 g2
      rw [drop_get xs i d (by omega), drop_get ys i d (by omega)] at g1 g2
      by_cases he : xs.getD i d = ys.getD i d
      · obtain ⟨n, hn⟩ := ih (i + 1) (by omega) (fun e => g1 (by rw [he, e])) (fun e => g2 (fun e' => e (List.cons.inj e').2))
        exact ⟨n + 1, hgo n i (by omega) he (inR_up hm (by omega)) (by simpa using hn)⟩
      · exact ⟨1, hbad 0 i (by omega) he (g2 fun e => he (List.cons.inj e).1)⟩
  exact key xs.length 0 (by omega) (by simpa using h1) (by simpa using h2)

def decD5 : DecidableEq (TyA0) := (@instDecidableEqProd _ _ inferInstance (@instDecidableEqProd _ _ inferInstance (@instDecidableEqProd _ _ inferInstance (@instDecidableEqProd _ _ inferInstance (@instDecidableEqProd _ _ inferInstance (@instDecidableEqProd _ _ inferInstance (@instDecidableEqProd _ _ inferInstance (@instDecidableEqProd _ _ inferInstance (@instDecidableEqProd _ _ inferInstance (@instDecidableEqProd _ _ inferInstance (@instDecidableEqProd _ _ inferInstance (@instDecidableEqProd _ _ inferInstance inferInstance))))))))))))
def g5_0 (x0 x1 : (TyA0)) : Bool := @decide (x0 = x1) (decD5 x0 x1)
def P5 (x0 x1 : (TyA0)) : Prop := True

theorem lists5 (x0 x1 : (TyA0)) : g17_0 x0 x1 = true ↔ x0.1.length = x1.1.length ∧ x0.2.2.1.length = x1.2.2.1.length ∧ x0.2.2.2.1.length = x1.2.2.2.1.length ∧ x0.2.2.2.2.2.2.1.length = x1.2.2.2.2.2.2.1.length ∧ x0.2.2.2.2.2.2.2.2.1.length = x1.2.2.2.2.2.2.2.2.1.length ∧ x0.2.2.2.2.2.2.2.2.2.1.length = x1.2.2.2.2.2.2.2.2.2.1.length ∧ x0.2.2.2.2.2.2.2.2.2.2.1.length = x1.2.2.2.2.2.2.2.2.2.2.1.length ∧ x0.2.2.2.2.2.2.2.2.2.2.2.1.length = x1.2.2.2.2.2.2.2.2.2.2.2.1.length := by
  unfold g17_0
  by_cases h0 : x0.1.length = x1.1.length
  · simp only [h0, decide_true, if_true, true_and]
    simp [Int.natCast_inj]
  · simp [h0, Int.natCast_inj]
    try omega

theorem top5 (x0 x1 : (TyA0)) (hw : Wf (.cons (.sl (.cons .str (.cons (.int .i64) (.cons (.int .i64) (.cons (.int .i64) .unit))))) (.cons (.cons (.int .i64) (.cons (.int .i64) (.cons (.int .i64) (.cons (.int .i64) .unit)))) (.cons (.sl (.cons (.int .i64) (.cons (.int .i64) (.cons (.int .i64) .unit)))) (.cons (.sl (.cons (.int .i64) (.cons (.int .i64) (.cons (.int .i64) .unit)))) (.cons (.cons (.int .i64) (.cons (.int .i64) (.cons (.int .i64) .unit))) (.cons (.cons (.int .i64) (.cons (.int .i64) (.cons (.int .i64) .unit))) (.cons (.sl (.cons .str (.cons (.int .i64) (.cons (.int .i64) .unit)))) (.cons (.cons (.int .i64) (.cons (.int .i64) (.cons (.int .i64) (.cons (.int .i64) .unit)))) (.cons (.sl (.cons .str (.cons (.int .i64) (.cons (.int .i64) (.cons (.int .i64) .unit))))) (.cons (.sl (.cons (.int .i64) (.cons (.int .i64) (.cons (.int .i64) .unit)))) (.cons (.sl (.cons .str (.cons (.int .i64) (.cons (.int .i64) .unit)))) (.cons (.sl (.cons .str (.cons (.int .i64) (.cons (.int .i64) .unit)))) .unit)))))))))))) x0) : ∃ n, R5 n x0 x1 [(⟨.bool, g5_0 x0 x1⟩ : Dyn)] := by
  have bad : x0 ≠ x1 → [(⟨.bool, g5_0 x0 x1⟩ : Dyn)] = [⟨.bool, false⟩] := fun h => by unfold g5_0; rw [@decide_eq_false _ (decD5 _ _) h]
  have step : ∀ {n : Nat} {Q : Prop}, Q → Q := fun h => h
  suffices h : (g17_0 x0 x1 = true → x0.2.1 = x1.2.1 → x0.2.2.2.2.1 = x1.2.2.2.2.1 → x0.2.2.2.2.2.1 = x1.2.2.2.2.2.1 → x0.2.2.2.2.2.2.2.1 = x1.2.2.2.2.2.2.2.1 → ∃ n, R5_4 n 0 x0 x1 [(⟨.bool, g5_0 x0 x1⟩ : Dyn)]) by
    have hne : ∀ {α : Type} (p : (TyA0) → α), p x0 ≠ p x1 → x0 ≠ x1 := fun p h e => h (by rw [e])
    have hf : ∀ {t : Ty} {x y : t.den}, t.flat = true → x ≠ y → eqD t x y = false := fun ht h => Bool.eq_false_iff.2 fun e => h ((eqD_eq ht).1 e)
    by_cases hL : g17_0 x0 x1 = true
    · by_cases h1 : x0.2.1 = x1.2.1
      · by_cases h2 : x0.2.2.2.2.1 = x1.2.2.2.2.1
        · by_cases h3 : x0.2.2.2.2.2.1 = x1.2.2.2.2.2.1
          · by_cases h4 : x0.2.2.2.2.2.2.2.1 = x1.2.2.2.2.2.2.2.1
            · obtain ⟨n, hn⟩ := h hL h1 h2 h3 h4
              refine ⟨n + 1, ?_⟩
              rw [R5, if_neg (by simp [hL]), if_neg (by rw [(eqD_eq rfl).2 h1]; simp), if_neg (by rw [(eqD_eq rfl).2 h2]; simp), if_neg (by rw [(eqD_eq rfl).2 h3]; simp), if_neg (by rw [(eqD_eq rfl).2 h4]; simp)]
              exact hn
            · refine ⟨1, ?_⟩
              rw [R5, if_neg (by simp [hL]), if_neg (by rw [(eqD_eq rfl).2 h1]; simp), if_neg (by rw [(eqD_eq rfl).2 h2]; simp), if_neg (by rw [(eqD_eq rfl).2 h3]; simp), if_pos (by rw [hf rfl h4]; rfl)]
              exact bad (hne (fun x => x.2.2.2.2.2.2.2.1) h4)
          · refine ⟨1, ?_⟩
            rw [R5, if_neg (by simp [hL]), if_neg (by rw [(eqD_eq rfl).2 h1]; simp), if_neg (by rw [(eqD_eq rfl).2 h2]; simp), if_pos (by rw [hf rfl h3]; rfl)]
            exact bad (hne (fun x => x.2.2.2.2.2.1) h3)
        · refine ⟨1, ?_⟩
          rw [R5, if_neg (by simp [hL]), if_neg (by rw [(eqD_eq rfl).2 h1]; simp), if_pos (by rw [hf rfl h2]; rfl)]
          exact bad (hne (fun x => x.2.2.2.2.1) h2)
      · refine ⟨1, ?_⟩
        rw [R5, if_neg (by simp [hL]), if_pos (by rw [hf rfl h1]; rfl)]
        exact bad (hne (fun x => x.2.1) h1)
    · refine ⟨1, ?_⟩
      rw [R5, if_pos (by simp [hL])]
      exact bad fun e => hL (by rw [e, lists5]; simp)
  intro hL hRope hMotor hDoor hBasin
  have hne : ∀ {α : Type} (p : (TyA0) → α), p x0 ≠ p x1 → x0 ≠ x1 := fun p h e => h (by rw [e])
  have hf : ∀ {t : Ty} {x y : t.den}, t.flat = true → x ≠ y → eqD t x y = false := fun ht h => Bool.eq_false_iff.2 fun e => h ((eqD_eq ht).1 e)
  obtain ⟨lBends, lHours, lLimits, lWorkers, lFares, lTests, lHelpers, lTasks⟩ := (lists5 x0 x1).1 hL
  have mBends : x0.1.length ≤ maxLen := hw.1.1
  have mHours : x0.2.2.1.length ≤ maxLen := hw.2.2.1.1
  have mLimits : x0.2.2.2.1.length ≤ maxLen := hw.2.2.2.1.1
  have mWorkers : x0.2.2.2.2.2.2.1.length ≤ maxLen := hw.2.2.2.2.2.2.1.1
  have mFares : x0.2.2.2.2.2.2.2.2.1.length ≤ maxLen := hw.2.2.2.2.2.2.2.2.1.1
  have mTests : x0.2.2.2.2.2.2.2.2.2.1.length ≤ maxLen := hw.2.2.2.2.2.2.2.2.2.1.1
  have mHelpers : x0.2.2.2.2.2.2.2.2.2.2.1.length ≤ maxLen := hw.2.2.2.2.2.2.2.2.2.2.1.1
  have mTasks : x0.2.2.2.2.2.2.2.2.2.2.2.1.length ≤ maxLen := hw.2.2.2.2.2.2.2.2.2.2.2.1.1
  refine loop_eqs5 x0.1 x1.1 (ByteArray.empty, (0 : Int), (0 : Int), (0 : Int), ()) lBends mBends (fun n i => R5_4 n i x0 x1 [(⟨.bool, g5_0 x0 x1⟩ : Dyn)]) (∃ n, R5_9 n 0 x0 x1 [(⟨.bool, g5_0 x0 x1⟩ : Dyn)]) ([(⟨.bool, g5_0 x0 x1⟩ : Dyn)] = [⟨.bool, false⟩]) ?_ ?_ ?_ (fun eBends => ?_) (fun h => bad (hne (fun x => x.1) h))
  · rintro ⟨n, hn⟩
    refine ⟨n + 1, ?_⟩
    show R5_4 (n + 1) _ x0 x1 _
    rw [R5_4, if_neg (by simp)]
    exact hn
  · intro n i hi he hr hn
    show R5_4 (n + 1) _ x0 x1 _
    rw [R5_4, if_pos (by simpa using hi)]
    refine ⟨by omega, by omega, by omega, by omega, ?_⟩
    simp only [Int.toNat_natCast]
    rw [if_neg (by rw [(eqD_eq rfl).2 he]; simp)]
    exact ⟨hr, hn⟩
  · intro n i hi he hB
    show R5_4 (n + 1) _ x0 x1 _
    rw [R5_4, if_pos (by simpa using hi)]
    refine ⟨by omega, by omega, by omega, by omega, ?_⟩
    simp only [Int.toNat_natCast]
    rw [if_pos (by rw [hf rfl he]; rfl)]
    exact hB
  refine loop_eqs5 x0.2.2.1 x1.2.2.1 ((0 : Int), (0 : Int), (0 : Int), ()) lHours mHours (fun n i => R5_9 n i x0 x1 [(⟨.bool, g5_0 x0 x1⟩ : Dyn)]) (∃ n, R5_14 n 0 x0 x1 [(⟨.bool, g5_0 x0 x1⟩ : Dyn)]) ([(⟨.bool, g5_0 x0 x1⟩ : Dyn)] = [⟨.bool, false⟩]) ?_ ?_ ?_ (fun eHours => ?_) (fun h => bad (hne (fun x => x.2.2.1) h))
  · rintro ⟨n, hn⟩
    refine ⟨n + 1, ?_⟩
    show R5_9 (n + 1) _ x0 x1 _
    rw [R5_9, if_neg (by simp)]
    exact hn
  · intro n i hi he hr hn
    show R5_9 (n + 1) _ x0 x1 _
    rw [R5_9, if_pos (by simpa using hi)]
    refine ⟨by omega, by omega, by omega, by omega, ?_⟩
    simp only [Int.toNat_natCast]
    rw [if_neg (by rw [(eqD_eq rfl).2 he]; simp)]
    exact ⟨hr, hn⟩
  · intro n i hi he hB
    show R5_9 (n + 1) _ x0 x1 _
    rw [R5_9, if_pos (by simpa using hi)]
    refine ⟨by omega, by omega, by omega, by omega, ?_⟩
    simp only [Int.toNat_natCast]
    rw [if_pos (by rw [hf rfl he]; rfl)]
    exact hB
  refine loop_eqs5 x0.2.2.2.1 x1.2.2.2.1 ((0 : Int), (0 : Int), (0 : Int), ()) lLimits mLimits (fun n i => R5_14 n i x0 x1 [(⟨.bool, g5_0 x0 x1⟩ : Dyn)]) (∃ n, R5_19 n 0 x0 x1 [(⟨.bool, g5_0 x0 x1⟩ : Dyn)]) ([(⟨.bool, g5_0 x0 x1⟩ : Dyn)] = [⟨.bool, false⟩]) ?_ ?_ ?_ (fun eLimits => ?_) (fun h => bad (hne (fun x => x.2.2.2.1) h))
  · rintro ⟨n, hn⟩
    refine ⟨n + 1, ?_⟩
    show R5_14 (n + 1) _ x0 x1 _
    rw [R5_14, if_neg (by simp)]
    exact hn
  · intro n i hi he hr hn
    show R5_14 (n + 1) _ x0 x1 _
    rw [R5_14, if_pos (by simpa using hi)]
    refine ⟨by omega, by omega, by omega, by omega, ?_⟩
    simp only [Int.toNat_natCast]
    rw [if_neg (by rw [(eqD_eq rfl).2 he]; simp)]
    exact ⟨hr, hn⟩
  · intro n i hi he hB
    show R5_14 (n + 1) _ x0 x1 _
    rw [R5_14, if_pos (by simpa using hi)]
    refine ⟨by omega, by omega, by omega, by omega, ?_⟩
    simp only [Int.toNat_natCast]
    rw [if_pos (by rw [hf rfl he]; rfl)]
    exact hB
  refine loop_eqs5 x0.2.2.2.2.2.2.1 x1.2.2.2.2.2.2.1 (ByteArray.empty, (0 : Int), (0 : Int), ()) lWorkers mWorkers (fun n i => R5_19 n i x0 x1 [(⟨.bool, g5_0 x0 x1⟩ : Dyn)]) (∃ n, R5_24 n 0 x0 x1 [(⟨.bool, g5_0 x0 x1⟩ : Dyn)]) ([(⟨.bool, g5_0 x0 x1⟩ : Dyn)] = [⟨.bool, false⟩]) ?_ ?_ ?_ (fun eWorkers => ?_) (fun h => bad (hne (fun x => x.2.2.2.2.2.2.1) h))
  · rintro ⟨n, hn⟩
    refine ⟨n + 1, ?_⟩
    show R5_19 (n + 1) _ x0 x1 _
    rw [R5_19, if_neg (by simp)]
    exact hn
  · intro n i hi he hr hn
    show R5_19 (n + 1) _ x0 x1 _
    rw [R5_19, if_pos (by simpa using hi)]
    refine ⟨by omega, by omega, by omega, by omega, ?_⟩
    simp only [Int.toNat_natCast]
    rw [if_neg (by rw [(eqD_eq rfl).2 he]; simp)]
    exact ⟨hr, hn⟩
  · intro n i hi he hB
    show R5_19 (n + 1) _ x0 x1 _
    rw [R5_19, if_pos (by simpa using hi)]
    refine ⟨by omega, by omega, by omega, by omega, ?_⟩
    simp only [Int.toNat_natCast]
    rw [if_pos (by rw [hf rfl he]; rfl)]
    exact hB
  refine loop_eqs5 x0.2.2.2.2.2.2.2.2.1 x1.2.2.2.2.2.2.2.2.1 (ByteArray.empty, (0 : Int), (0 : Int), (0 : Int), ()) lFares mFares (fun n i => R5_24 n i x0 x1 [(⟨.bool, g5_0 x0 x1⟩ : Dyn)]) (∃ n, R5_29 n 0 x0 x1 [(⟨.bool, g5_0 x0 x1⟩ : Dyn)]) ([(⟨.bool, g5_0 x0 x1⟩ : Dyn)] = [⟨.bool, false⟩]) ?_ ?_ ?_ (fun eFares => ?_) (fun h => bad (hne (fun x => x.2.2.2.2.2.2.2.2.1) h))
  · rintro ⟨n, hn⟩
    refine ⟨n + 1, ?_⟩
    show R5_24 (n + 1) _ x0 x1 _
    rw [R5_24, if_neg (by simp)]
    exact hn
  · intro n i hi he hr hn
    show R5_24 (n + 1) _ x0 x1 _
    rw [R5_24, if_pos (by simpa using hi)]
    refine ⟨by omega, by omega, by omega, by omega, ?_⟩
    simp only [Int.toNat_natCast]
    rw [if_neg (by rw [(eqD_eq rfl).2 he]; simp)]
    exact ⟨hr, hn⟩
  · intro n i hi he hB
    show R5_24 (n + 1) _ x0 x1 _
    rw [R5_24, if_pos (by simpa using hi)]
    refine ⟨by omega, by omega, by omega, by omega, ?_⟩
    simp only [Int.toNat_natCast]
    rw [if_pos (by rw [hf rfl he]; rfl)]
    exact hB
  refine loop_eqs5 x0.2.2.2.2.2.2.2.2.2.1 x1.2.2.2.2.2.2.2.2.2.1 ((0 : Int), (0 : Int), (0 : Int), ()) lTests mTests (fun n i => R5_29 n i x0 x1 [(⟨.bool, g5_0 x0 x1⟩ : Dyn)]) (∃ n, R5_34 n 0 x0 x1 [(⟨.bool, g5_0 x0 x1⟩ : Dyn)]) ([(⟨.bool, g5_0 x0 x1⟩ : Dyn)] = [⟨.bool, false⟩]) ?_ ?_ ?_ (fun eTests => ?_) (fun h => bad (hne (fun x => x.2.2.2.2.2.2.2.2.2.1) h))
  · rintro ⟨n, hn⟩
    refine ⟨n + 1, ?_⟩
    show R5_29 (n + 1) _ x0 x1 _
    rw [R5_29, if_neg (by simp)]
    exact hn
  · intro n i hi he hr hn
    show R5_29 (n + 1) _ x0 x1 _
    rw [R5_29, if_pos (by simpa using hi)]
    refine ⟨by omega, by omega, by omega, by omega, ?_⟩
    simp only [Int.toNat_natCast]
    rw [if_neg (by rw [(eqD_eq rfl).2 he]; simp)]
    exact ⟨hr, hn⟩
  · intro n i hi he hB
    show R5_29 (n + 1) _ x0 x1 _
    rw [R5_29, if_pos (by simpa using hi)]
    refine ⟨by omega, by omega, by omega, by omega, ?_⟩
    simp only [Int.toNat_natCast]
    rw [if_pos (by rw [hf rfl he]; rfl)]
    exact hB
  refine loop_eqs5 x0.2.2.2.2.2.2.2.2.2.2.1 x1.2.2.2.2.2.2.2.2.2.2.1 (ByteArray.empty, (0 : Int), (0 : Int), ()) lHelpers mHelpers (fun n i => R5_34 n i x0 x1 [(⟨.bool, g5_0 x0 x1⟩ : Dyn)]) (∃ n, R5_39 n 0 x0 x1 [(⟨.bool, g5_0 x0 x1⟩ : Dyn)]) ([(⟨.bool, g5_0 x0 x1⟩ : Dyn)] = [⟨.bool, false⟩]) ?_ ?_ ?_ (fun eHelpers => ?_) (fun h => bad (hne (fun x => x.2.2.2.2.2.2.2.2.2.2.1) h))
  · rintro ⟨n, hn⟩
    refine ⟨n + 1, ?_⟩
    show R5_34 (n + 1) _ x0 x1 _
    rw [R5_34, if_neg (by simp)]
    exact hn
  · intro n i hi he hr hn
    show R5_34 (n + 1) _ x0 x1 _
    rw [R5_34, if_pos (by simpa using hi)]
    refine ⟨by omega, by omega, by omega, by omega, ?_⟩
    simp only [Int.toNat_natCast]
    rw [if_neg (by rw [(eqD_eq rfl).2 he]; simp)]
    exact ⟨hr, hn⟩
  · intro n i hi he hB
    show R5_34 (n + 1) _ x0 x1 _
    rw [R5_34, if_pos (by simpa using hi)]
    refine ⟨by omega, by omega, by omega, by omega, ?_⟩
    simp only [Int.toNat_natCast]
    rw [if_pos (by rw [hf rfl he]; rfl)]
    exact hB
  refine loop_eqs5 x0.2.2.2.2.2.2.2.2.2.2.2.1 x1.2.2.2.2.2.2.2.2.2.2.2.1 (ByteArray.empty, (0 : Int), (0 : Int), ()) lTasks mTasks (fun n i => R5_39 n i x0 x1 [(⟨.bool, g5_0 x0 x1⟩ : Dyn)]) ([(⟨.bool, g5_0 x0 x1⟩ : Dyn)] = [⟨.bool, true⟩]) ([(⟨.bool, g5_0 x0 x1⟩ : Dyn)] = [⟨.bool, false⟩]) ?_ ?_ ?_ (fun eTasks => ?_) (fun h => bad (hne (fun x => x.2.2.2.2.2.2.2.2.2.2.2.1) h))
  · intro hn
    refine ⟨1, ?_⟩
    show R5_39 1 _ x0 x1 _
    rw [R5_39, if_neg (by simp)]
    exact hn
  · intro n i hi he hr hn
    show R5_39 (n + 1) _ x0 x1 _
    rw [R5_39, if_pos (by simpa using hi)]
    refine ⟨by omega, by omega, by omega, by omega, ?_⟩
    simp only [Int.toNat_natCast]
    rw [if_neg (by rw [(eqD_eq rfl).2 he]; simp)]
    exact ⟨hr, hn⟩
  · intro n i hi he hB
    show R5_39 (n + 1) _ x0 x1 _
    rw [R5_39, if_pos (by simpa using hi)]
    refine ⟨by omega, by omega, by omega, by omega, ?_⟩
    simp only [Int.toNat_natCast]
    rw [if_pos (by rw [hf rfl he]; rfl)]
    exact hB
  have : x0 = x1 := by
    refine Prod.ext eBends (Prod.ext hRope (Prod.ext eHours (Prod.ext eLimits (Prod.ext hMotor (Prod.ext hDoor (Prod.ext eWorkers (Prod.ext hBasin (Prod.ext eFares (Prod.ext eTests (Prod.ext eHelpers (Prod.ext eTasks rfl)))))))))))
  unfold g5_0
  rw [@decide_eq_true _ (decD5 _ _) this]

def S5 : Am.Spec := { sig := sig5, pre := fun ⟨x0, x1, _⟩ => P5 x0 x1, res := fun ⟨x0, x1, _⟩ => [⟨Ty.bool, g5_0 x0 x1⟩] }
theorem con5 : Contract Try.prog 5 S5 := contract_of Try.func5 hb5 (Nat.le_of_ble_eq_true (by kernel_rfl)) (fun ⟨x0, x1, _⟩ h hwf K q => by
  obtain ⟨n, hn⟩ := top5 x0 x1 hwf.1
  exact (snd5 n).1 x0 x1 _ hn K q)

end Go.Proofs.Ytpcfcplggpchjaa

/- Function 50 (laws.szBend): its runs between cut points. Written by a program of this repo (gen). -/
set_option linter.unusedVariables false
set_option linter.unusedSimpArgs false
set_option maxRecDepth 100000
namespace Go.Proofs.Ytpcfcplggpchjaa
open Go Go.Am Go.Proofs
def ext50 : Ext := []
theorem ext50Ok : ExtOk Try.prog ext50 := trivial

noncomputable def b50 : Code := bodyOf Try.f50
theorem hb50 : Try.f50.body = some b50 := by kernel_rfl
def sig50 : List AT := [AT.v (Ty.cons Ty.str (Ty.cons (Ty.int IntKind.i64) (Ty.cons (Ty.int IntKind.i64) (Ty.cons (Ty.int IntKind.i64) Ty.unit)))), AT.v (Ty.int IntKind.i64)]
def tys50 : List Ty := [Ty.int IntKind.i64]
def kds50 : List RK := []
def oks50 : List AT := owns sig50
def P50 (x0 : ByteArray × Int × Int × Int × Unit) (x1 : Int) : Prop := ((InR IntKind.i64 (x1 - (↑(ByteArray.size (Prod.fst x0)) : Int))) ∧ True)
def g50_0 (x0 : ByteArray × Int × Int × Int × Unit) (x1 : Int) : Int := (if (Decidable.decide (x1 - (↑(ByteArray.size (Prod.fst x0)) : Int) < 0)) = true then -1 else x1 - (↑(ByteArray.size (Prod.fst x0)) : Int))
theorem p50_0 (x0 : ByteArray × Int × Int × Int × Unit) (x1 : Int) : runF tab ext50 false 13 [] 2000 [] oks50 kds50 tys50 Try.f50.results [true] [.code b50] (entE 0 0 sig50 (x0, x1, ())) (entL sig50 (x0, x1, ())) = some ([Dyn.mk (Ty.int IntKind.i64) (-1)], [], [InR IntKind.i64 (x1 - (↑(ByteArray.size (Prod.fst x0)) : Int)), Decidable.decide (x1 - (↑(ByteArray.size (Prod.fst x0)) : Int) < 0) = Bool.true]) := by kernel_rfl
theorem p50_1 (x0 : ByteArray × Int × Int × Int × Unit) (x1 : Int) : runF tab ext50 false 13 [] 2000 [] oks50 kds50 tys50 Try.f50.results [false] [.code b50] (entE 0 0 sig50 (x0, x1, ())) (entL sig50 (x0, x1, ())) = some ([Dyn.mk (Ty.int IntKind.i64) (x1 - (↑(ByteArray.size (Prod.fst x0)) : Int))], [], [InR IntKind.i64 (x1 - (↑(ByteArray.size (Prod.fst x0)) : Int)), Decidable.decide (x1 - (↑(ByteArray.size (Prod.fst x0)) : Int) < 0) = Bool.false]) := by kernel_rfl
theorem at50 (x0 : ByteArray × Int × Int × Int × Unit) (x1 : Int) (h : P50 x0 x1) (K : Ctx) (q : Nat → Value) : AtV Try.prog 50 (PostR kds50 oks50 [⟨Ty.int IntKind.i64, g50_0 x0 x1⟩] [] [] q K) 13 K q [] [.code b50] (entE 0 0 sig50 (x0, x1, ())) (entL sig50 (x0, x1, ())) := by
  unfold P50 at h
  unfold g50_0
  obtain ⟨s0, h⟩ := h
  by_cases b0 : (Decidable.decide (x1 - (↑(ByteArray.size (Prod.fst x0)) : Int) < 0)) = true
  · try simp only [if_pos b0] at h ⊢
    exact AtV.fin Try.func50 tabOk ext50Ok mixed (p50_0 x0 x1) ⟨s0, b0, trivial⟩
  · try simp only [if_neg b0] at h ⊢
    replace b0 := Bool.eq_false_iff.2 b0
    exact AtV.fin Try.func50 tabOk ext50Ok mixed (p50_1 x0 x1) ⟨s0, b0, trivial⟩

def S50 : Am.Spec := { sig := sig50, pre := fun ⟨x0, x1, _⟩ => P50 x0 x1, res := fun ⟨x0, x1, _⟩ => [⟨Ty.int IntKind.i64, g50_0 x0 x1⟩], kds := kds50 }
theorem con50 : Contract Try.prog 50 S50 := contract_of Try.func50 hb50 (Nat.le_of_ble_eq_true (by kernel_rfl)) (fun ⟨x0, x1, _⟩ h _ K q => at50 x0 x1 h K q)


theorem sz50 (x0 : (ByteArray × Int × Int × Int × Unit)) (x1 : Int) (h : 0 ≤ x1) (hi : InR .i64 x1) (hw : Wf (.cons .str (.cons (.int .i64) (.cons (.int .i64) (.cons (.int .i64) .unit)))) x0) :
    P50 x0 x1 ∧ -1 ≤ g50_0 x0 x1 ∧ g50_0 x0 x1 ≤ x1 := by
  have h0 : x0.1.size ≤ 9223372036854775807 := hw.1
  rw [i64_iff] at hi
  unfold P50 g50_0
  simp only [decide_eq_true_eq, i64_iff]
  repeat' (first | apply And.intro | split)
  all_goals first | trivial | omega

end Go.Proofs.Ytpcfcplggpchjaa

/- Function 9 (laws.szBendS): its runs between cut points. Written by a program of this repo (gen). -/
set_option linter.unusedVariables false
set_option linter.unusedSimpArgs false
set_option maxRecDepth 100000
namespace Go.Proofs.Ytpcfcplggpchjaa
open Go Go.Am Go.Proofs
def ext9 : Ext := [(50, S50)]
theorem call9_50 : Callable Try.prog 50 := ⟨Try.f50, Try.func50, by kernel_rfl, by kernel_rfl⟩
theorem ext9Ok : ExtOk Try.prog ext9 := ⟨⟨call9_50, con50⟩, trivial⟩

noncomputable def b9 : Code := bodyOf Try.f9
theorem hb9 : Try.f9.body = some b9 := by kernel_rfl
def sig9 : List AT := [AT.v (Ty.sl (Ty.cons Ty.str (Ty.cons (Ty.int IntKind.i64) (Ty.cons (Ty.int IntKind.i64) (Ty.cons (Ty.int IntKind.i64) Ty.unit))))), AT.v (Ty.int IntKind.i64)]
def tys9 : List Ty := [Ty.int IntKind.i64]
def kds9 : List RK := []
def oks9 : List AT := owns sig9
def E9_5 (v1 : Int) (v5 : Int) (x0 : List (ByteArray × Int × Int × Int × Unit)) : Env := [(0, PV.a (Atom.sl (Ty.cons Ty.str (Ty.cons (Ty.int IntKind.i64) (Ty.cons (Ty.int IntKind.i64) (Ty.cons (Ty.int IntKind.i64) Ty.unit)))) x0)), (1, PV.a (Atom.val (Value.int IntKind.i64 v1))), (5, PV.a (Atom.val (Value.int IntKind.i64 v5)))]
def L9_5 (v1 : Int) (v5 : Int) (x0 : List (ByteArray × Int × Int × Int × Unit)) : Heap := []
mutual
def R9 : Nat → List (ByteArray × Int × Int × Int × Unit) → Int → List Dyn → Prop
  | 0, _, _, _ => False
  | n + 1, x0, x1, ds => ((InR IntKind.i64 (x1 - (↑(List.length x0) : Int))) ∧ (if (Decidable.decide (x1 - (↑(List.length x0) : Int) < 0)) = true then (ds = [Dyn.mk (Ty.int IntKind.i64) (-1)]) else (R9_5 n (x1 - (↑(List.length x0) : Int)) (0) (x0) ds)))
def R9_5 : Nat → Int → Int → List (ByteArray × Int × Int × Int × Unit) → List Dyn → Prop
  | 0, _, _, _, _ => False
  | n + 1, v1, v5, x0, ds => (if (Decidable.decide (v5 < (↑(List.length x0) : Int))) = true then ((0 ≤ v5) ∧ (v5 < (↑(List.length x0) : Int)) ∧ ((P50 (List.getD x0 (Int.toNat v5) (ByteArray.empty, 0, 0, 0, ())) v1) ∧ (if (Decidable.decide (g50_0 (List.getD x0 (Int.toNat v5) (ByteArray.empty, 0, 0, 0, ())) v1 < 0)) = true then (ds = [Dyn.mk (Ty.int IntKind.i64) (-1)]) else ((InR IntKind.i64 (v5 + 1)) ∧ (R9_5 n (g50_0 (List.getD x0 (Int.toNat v5) (ByteArray.empty, 0, 0, 0, ())) v1) (v5 + 1) (x0) ds))))) else (ds = [Dyn.mk (Ty.int IntKind.i64) v1]))
end
theorem p9_0 (x0 : List (ByteArray × Int × Int × Int × Unit)) (x1 : Int) : runF tab ext9 false 27 [] 2000 [] oks9 kds9 tys9 Try.f9.results [true] [.code b9] (entE 0 0 sig9 (x0, x1, ())) (entL sig9 (x0, x1, ())) = some ([Dyn.mk (Ty.int IntKind.i64) (-1)], [], [InR IntKind.i64 (x1 - (↑(List.length x0) : Int)), Decidable.decide (x1 - (↑(List.length x0) : Int) < 0) = Bool.true]) := by kernel_rfl
theorem p9_1 (x0 : List (ByteArray × Int × Int × Int × Unit)) (x1 : Int) : Am.runN tab ext9 false 27 [] 2000 [] [] [0, 1, 5] [] [false] [.code b9] (entE 0 0 sig9 (x0, x1, ())) (entL sig9 (x0, x1, ())) = some (cutAt b9 5, E9_5 (x1 - (↑(List.length x0) : Int)) (0) (x0), L9_5 (x1 - (↑(List.length x0) : Int)) (0) (x0), [InR IntKind.i64 (x1 - (↑(List.length x0) : Int)), Decidable.decide (x1 - (↑(List.length x0) : Int) < 0) = Bool.false]) := by kernel_rfl
theorem p9_2 (v1 : Int) (v5 : Int) (x0 : List (ByteArray × Int × Int × Int × Unit)) : runF tab ext9 false 27 [] 2000 [] oks9 kds9 tys9 Try.f9.results [true, true] (cutAt b9 5) (E9_5 v1 v5 x0) (L9_5 v1 v5 x0) = some ([Dyn.mk (Ty.int IntKind.i64) (-1)], [], [Decidable.decide (v5 < (↑(List.length x0) : Int)) = Bool.true, 0 ≤ v5, v5 < (↑(List.length x0) : Int), P50 (List.getD x0 (Int.toNat v5) (ByteArray.empty, 0, 0, 0, ())) v1, Decidable.decide (g50_0 (List.getD x0 (Int.toNat v5) (ByteArray.empty, 0, 0, 0, ())) v1 < 0) = Bool.true]) := by kernel_rfl
theorem p9_3 (v1 : Int) (v5 : Int) (x0 : List (ByteArray × Int × Int × Int × Unit)) : Am.runN tab ext9 false 27 [] 2000 [] [] [0, 1, 5] [] [true, false] (cutAt b9 5) (E9_5 v1 v5 x0) (L9_5 v1 v5 x0) = some (cutAt b9 5, E9_5 (g50_0 (List.getD x0 (Int.toNat v5) (ByteArray.empty, 0, 0, 0, ())) v1) (v5 + 1) (x0), L9_5 (g50_0 (List.getD x0 (Int.toNat v5) (ByteArray.empty, 0, 0, 0, ())) v1) (v5 + 1) (x0), [Decidable.decide (v5 < (↑(List.length x0) : Int)) = Bool.true, 0 ≤ v5, v5 < (↑(List.length x0) : Int), P50 (List.getD x0 (Int.toNat v5) (ByteArray.empty, 0, 0, 0, ())) v1, Decidable.decide (g50_0 (List.getD x0 (Int.toNat v5) (ByteArray.empty, 0, 0, 0, ())) v1 < 0) = Bool.false, InR IntKind.i64 (v5 + 1)]) := by kernel_rfl
theorem p9_4 (v1 : Int) (v5 : Int) (x0 : List (ByteArray × Int × Int × Int × Unit)) : runF tab ext9 false 27 [] 2000 [] oks9 kds9 tys9 Try.f9.results [false] (cutAt b9 5) (E9_5 v1 v5 x0) (L9_5 v1 v5 x0) = some ([Dyn.mk (Ty.int IntKind.i64) v1], [], [Decidable.decide (v5 < (↑(List.length x0) : Int)) = Bool.false]) := by kernel_rfl
theorem snd9 : ∀ n, (∀ (x0 : List (ByteArray × Int × Int × Int × Unit)) (x1 : Int) ds, R9 n x0 x1 ds → ∀ K q, AtV Try.prog 9 (PostR kds9 oks9 ds [] [] q K) 27 K q [] [.code b9] (entE 0 0 sig9 (x0, x1, ())) (entL sig9 (x0, x1, ()))) ∧ (∀ (v1 : Int) (v5 : Int) (x0 : List (ByteArray × Int × Int × Int × Unit)) ds, R9_5 n v1 v5 x0 ds → ∀ K q, AtV Try.prog 9 (PostR kds9 oks9 ds [] [] q K) 27 K q [] (cutAt b9 5) (E9_5 v1 v5 x0) (L9_5 v1 v5 x0)) := by
  intro n
  induction n with
  | zero => exact ⟨fun _ _ _ h => by simp only [R9] at h, fun _ _ _ _ h => by simp only [R9_5] at h⟩
  | succ n ih =>
  obtain ⟨ih, ih5⟩ := ih
  refine ⟨?_, ?_⟩
  · intro x0 x1 ds h K q
    rw [R9] at h
    obtain ⟨s0, h⟩ := h
    by_cases b0 : (Decidable.decide (x1 - (↑(List.length x0) : Int) < 0)) = true
    · rw [if_pos b0] at h
      subst h
      exact AtV.fin Try.func9 tabOk ext9Ok mixed (p9_0 x0 x1) ⟨s0, b0, trivial⟩
    · rw [if_neg b0] at h
      replace b0 := Bool.eq_false_iff.2 b0
      exact AtV.runN tabOk ext9Ok mixed (p9_1 x0 x1) ⟨s0, b0, trivial⟩ (ih5 _ _ _ _ h K q)

  · intro v1 v5 x0 ds h K q
    rw [R9_5] at h
    by_cases b0 : (Decidable.decide (v5 < (↑(List.length x0) : Int))) = true
    · rw [if_pos b0] at h
      obtain ⟨s0, s1, h⟩ := h
      obtain ⟨s2, h⟩ := h
      by_cases b1 : (Decidable.decide (g50_0 (List.getD x0 (Int.toNat v5) (ByteArray.empty, 0, 0, 0, ())) v1 < 0)) = true
      · rw [if_pos b1] at h
        subst h
        exact AtV.fin Try.func9 tabOk ext9Ok mixed (p9_2 v1 v5 x0) ⟨b0, s0, s1, s2, b1, trivial⟩
      · rw [if_neg b1] at h
        replace b1 := Bool.eq_false_iff.2 b1
        obtain ⟨s3, h⟩ := h
        exact AtV.runN tabOk ext9Ok mixed (p9_3 v1 v5 x0) ⟨b0, s0, s1, s2, b1, s3, trivial⟩ (ih5 _ _ _ _ h K q)
    · rw [if_neg b0] at h
      replace b0 := Bool.eq_false_iff.2 b0
      subst h
      exact AtV.fin Try.func9 tabOk ext9Ok mixed (p9_4 v1 v5 x0) ⟨b0, trivial⟩



def szL9 : List (ByteArray × Int × Int × Int × Unit) → Int → Int
  | [], l => l
  | x :: r, l => if g50_0 x l < 0 then -1 else szL9 r (g50_0 x l)

theorem szL9_ok : ∀ (x0 : List (ByteArray × Int × Int × Int × Unit)) (l : Int), 0 ≤ l → InR .i64 l → (∀ x ∈ x0, Wf (.cons .str (.cons (.int .i64) (.cons (.int .i64) (.cons (.int .i64) .unit)))) x) → szL9 x0 l ≤ l
  | [], l, _, _, _ => Int.le_refl _
  | x :: r, l, h, hi, hw => by
    obtain ⟨_, h2, h3⟩ := sz50 x l h hi (hw x (List.mem_cons_self ..))
    simp only [szL9]
    rw [i64_iff] at hi
    split
    · omega
    · have := szL9_ok r (g50_0 x l) (by omega) (by rw [i64_iff]; omega) (fun y hy => hw y (List.mem_cons_of_mem _ hy))
      omega

theorem run9 (x0 : List (ByteArray × Int × Int × Int × Unit)) (hm : x0.length ≤ maxLen) (hw : ∀ x ∈ x0, Wf (.cons .str (.cons (.int .i64) (.cons (.int .i64) (.cons (.int .i64) .unit)))) x) : ∀ (k i : Nat) (l : Int), i + k = x0.length → 0 ≤ l → InR .i64 l →
    R9_5 (k + 1) l (i : Int) x0 [⟨.int .i64, szL9 (x0.drop i) l⟩] := by
  intro k
  induction k with
  | zero =>
    intro i l hi _ _
    rw [R9_5, if_neg (by simp; omega), drop_end x0 i (by omega)]
    rfl
  | succ k ih =>
    intro i l hi h0 hl
    rw [R9_5, if_pos (by simp; omega)]
    simp only [Int.toNat_natCast]
    have hmem : x0.getD i (ByteArray.empty, (0 : Int), (0 : Int), (0 : Int), ()) ∈ x0 := by rw [getD_lt _ _ _ (by omega)]; exact List.getElem_mem _
    obtain ⟨h1, h2, h3⟩ := sz50 _ l h0 hl (hw _ hmem)
    refine ⟨by omega, by omega, h1, ?_⟩
    rw [drop_get x0 i (ByteArray.empty, (0 : Int), (0 : Int), (0 : Int), ()) (by omega)]
    simp only [szL9]
    have hl' := hl
    rw [i64_iff] at hl'
    by_cases hn : g50_0 (x0.getD i (ByteArray.empty, (0 : Int), (0 : Int), (0 : Int), ())) l < 0
    · rw [if_pos (by simpa using hn), if_pos hn]
    · rw [if_neg (by simpa using hn), if_neg hn]
      exact ⟨inR_up hm (by omega), ih (i + 1) _ (by omega) (by omega) (by rw [i64_iff]; omega)⟩

def g9_0 (x0 : List (ByteArray × Int × Int × Int × Unit)) (x1 : Int) : Int := if x1 - x0.length < 0 then -1 else szL9 x0 (x1 - x0.length)
def P9 (x0 : List (ByteArray × Int × Int × Int × Unit)) (x1 : Int) : Prop := 0 ≤ x1

theorem g9_le (x0 : List (ByteArray × Int × Int × Int × Unit)) (x1 : Int) (h : 0 ≤ x1) (hi : InR .i64 x1) (hw : Wf (.sl (.cons .str (.cons (.int .i64) (.cons (.int .i64) (.cons (.int .i64) .unit))))) x0) (hg : ¬ g9_0 x0 x1 < 0) : g9_0 x0 x1 ≤ x1 - x0.length := by
  unfold g9_0 at hg ⊢
  rw [i64_iff] at hi
  split
  · rename_i h1
    rw [if_pos h1] at hg
    omega
  · exact szL9_ok x0 _ (by omega) (by rw [i64_iff]; omega) hw.2

theorem top9 (x0 : List (ByteArray × Int × Int × Int × Unit)) (x1 : Int) (hw : Wf (.sl (.cons .str (.cons (.int .i64) (.cons (.int .i64) (.cons (.int .i64) .unit))))) x0) (hi : InR .i64 x1) (h : 0 ≤ x1) : R9 (x0.length + 1 + 1) x0 x1 [⟨Ty.int .i64, g9_0 x0 x1⟩] := by
  have hm : x0.length ≤ maxLen := hw.1
  have hm' : x0.length ≤ 9223372036854775807 := hm
  rw [i64_iff] at hi
  rw [R9]
  refine ⟨by rw [i64_iff]; omega, ?_⟩
  unfold g9_0
  by_cases hn : x1 - (x0.length : Int) < 0
  · rw [if_pos (by simpa using hn), if_pos hn]
  · rw [if_neg (by simpa using hn), if_neg hn]
    have := run9 x0 hm hw.2 x0.length 0 (x1 - x0.length) (by omega) (by omega) (by rw [i64_iff]; omega)
    simpa using this

def S9 : Am.Spec := { sig := sig9, pre := fun ⟨x0, x1, _⟩ => P9 x0 x1, res := fun ⟨x0, x1, _⟩ => [⟨Ty.int .i64, g9_0 x0 x1⟩] }
theorem con9 : Contract Try.prog 9 S9 := contract_of Try.func9 hb9 (Nat.le_of_ble_eq_true (by kernel_rfl)) (fun ⟨x0, x1, _⟩ h hwf K q =>
  (snd9 _).1 x0 x1 _ (top9 x0 x1 hwf.1 hwf.2.1 h) K q)

end Go.Proofs.Ytpcfcplggpchjaa

/- Function 10 (laws.szHourS): its runs between cut points. Written by a program of this repo (gen). -/
set_option linter.unusedVariables false
set_option linter.unusedSimpArgs false
set_option maxRecDepth 100000
namespace Go.Proofs.Ytpcfcplggpchjaa
open Go Go.Am Go.Proofs
def ext10 : Ext := []
theorem ext10Ok : ExtOk Try.prog ext10 := trivial

noncomputable def b10 : Code := bodyOf Try.f10
theorem hb10 : Try.f10.body = some b10 := by kernel_rfl
def sig10 : List AT := [AT.v (Ty.sl (Ty.cons (Ty.int IntKind.i64) (Ty.cons (Ty.int IntKind.i64) (Ty.cons (Ty.int IntKind.i64) Ty.unit)))), AT.v (Ty.int IntKind.i64)]
def tys10 : List Ty := [Ty.int IntKind.i64]
def kds10 : List RK := []
def oks10 : List AT := owns sig10
def P10 (x0 : List (Int × Int × Int × Unit)) (x1 : Int) : Prop := ((InR IntKind.i64 (x1 - (↑(List.length x0) : Int))) ∧ True)
def g10_0 (x0 : List (Int × Int × Int × Unit)) (x1 : Int) : Int := (if (Decidable.decide (x1 - (↑(List.length x0) : Int) < 0)) = true then -1 else x1 - (↑(List.length x0) : Int))
theorem p10_0 (x0 : List (Int × Int × Int × Unit)) (x1 : Int) : runF tab ext10 false 12 [] 2000 [] oks10 kds10 tys10 Try.f10.results [true] [.code b10] (entE 0 0 sig10 (x0, x1, ())) (entL sig10 (x0, x1, ())) = some ([Dyn.mk (Ty.int IntKind.i64) (-1)], [], [InR IntKind.i64 (x1 - (↑(List.length x0) : Int)), Decidable.decide (x1 - (↑(List.length x0) : Int) < 0) = Bool.true]) := by kernel_rfl
theorem p10_1 (x0 : List (Int × Int × Int × Unit)) (x1 : Int) : runF tab ext10 false 12 [] 2000 [] oks10 kds10 tys10 Try.f10.results [false] [.code b10] (entE 0 0 sig10 (x0, x1, ())) (entL sig10 (x0, x1, ())) = some ([Dyn.mk (Ty.int IntKind.i64) (x1 - (↑(List.length x0) : Int))], [], [InR IntKind.i64 (x1 - (↑(List.length x0) : Int)), Decidable.decide (x1 - (↑(List.length x0) : Int) < 0) = Bool.false]) := by kernel_rfl
theorem at10 (x0 : List (Int × Int × Int × Unit)) (x1 : Int) (h : P10 x0 x1) (K : Ctx) (q : Nat → Value) : AtV Try.prog 10 (PostR kds10 oks10 [⟨Ty.int IntKind.i64, g10_0 x0 x1⟩] [] [] q K) 12 K q [] [.code b10] (entE 0 0 sig10 (x0, x1, ())) (entL sig10 (x0, x1, ())) := by
  unfold P10 at h
  unfold g10_0
  obtain ⟨s0, h⟩ := h
  by_cases b0 : (Decidable.decide (x1 - (↑(List.length x0) : Int) < 0)) = true
  · try simp only [if_pos b0] at h ⊢
    exact AtV.fin Try.func10 tabOk ext10Ok mixed (p10_0 x0 x1) ⟨s0, b0, trivial⟩
  · try simp only [if_neg b0] at h ⊢
    replace b0 := Bool.eq_false_iff.2 b0
    exact AtV.fin Try.func10 tabOk ext10Ok mixed (p10_1 x0 x1) ⟨s0, b0, trivial⟩

def S10 : Am.Spec := { sig := sig10, pre := fun ⟨x0, x1, _⟩ => P10 x0 x1, res := fun ⟨x0, x1, _⟩ => [⟨Ty.int IntKind.i64, g10_0 x0 x1⟩], kds := kds10 }
theorem con10 : Contract Try.prog 10 S10 := contract_of Try.func10 hb10 (Nat.le_of_ble_eq_true (by kernel_rfl)) (fun ⟨x0, x1, _⟩ h _ K q => at10 x0 x1 h K q)


theorem g10_le (x0 : List (Int × Int × Int × Unit)) (x1 : Int) (h : 0 ≤ x1) (hi : InR .i64 x1) (hw : Wf (.sl (.cons (.int .i64) (.cons (.int .i64) (.cons (.int .i64) .unit)))) x0) (hg : ¬ g10_0 x0 x1 < 0) : P10 x0 x1 ∧ g10_0 x0 x1 ≤ x1 - x0.length := by
  have hm : x0.length ≤ 9223372036854775807 := hw.1
  rw [i64_iff] at hi
  unfold g10_0 P10 at *
  simp only [decide_eq_true_eq, i64_iff] at *
  refine ⟨?_, ?_⟩
  · repeat' (first | apply And.intro | split)
    all_goals first | trivial | omega
  · split at hg <;> rename_i hc
    · omega
    · rw [if_neg hc]; omega

end Go.Proofs.Ytpcfcplggpchjaa

/- Function 11 (laws.szLimitS): its runs between cut points. Written by a program of this repo (gen). -/
set_option linter.unusedVariables false
set_option linter.unusedSimpArgs false
set_option maxRecDepth 100000
namespace Go.Proofs.Ytpcfcplggpchjaa
open Go Go.Am Go.Proofs
def ext11 : Ext := []
theorem ext11Ok : ExtOk Try.prog ext11 := trivial

noncomputable def b11 : Code := bodyOf Try.f11
theorem hb11 : Try.f11.body = some b11 := by kernel_rfl
def sig11 : List AT := [AT.v (Ty.sl (Ty.cons (Ty.int IntKind.i64) (Ty.cons (Ty.int IntKind.i64) (Ty.cons (Ty.int IntKind.i64) Ty.unit)))), AT.v (Ty.int IntKind.i64)]
def tys11 : List Ty := [Ty.int IntKind.i64]
def kds11 : List RK := []
def oks11 : List AT := owns sig11
def P11 (x0 : List (Int × Int × Int × Unit)) (x1 : Int) : Prop := ((InR IntKind.i64 (x1 - (↑(List.length x0) : Int))) ∧ True)
def g11_0 (x0 : List (Int × Int × Int × Unit)) (x1 : Int) : Int := (if (Decidable.decide (x1 - (↑(List.length x0) : Int) < 0)) = true then -1 else x1 - (↑(List.length x0) : Int))
theorem p11_0 (x0 : List (Int × Int × Int × Unit)) (x1 : Int) : runF tab ext11 false 12 [] 2000 [] oks11 kds11 tys11 Try.f11.results [true] [.code b11] (entE 0 0 sig11 (x0, x1, ())) (entL sig11 (x0, x1, ())) = some ([Dyn.mk (Ty.int IntKind.i64) (-1)], [], [InR IntKind.i64 (x1 - (↑(List.length x0) : Int)), Decidable.decide (x1 - (↑(List.length x0) : Int) < 0) = Bool.true]) := by kernel_rfl
theorem p11_1 (x0 : List (Int × Int × Int × Unit)) (x1 : Int) : runF tab ext11 false 12 [] 2000 [] oks11 kds11 tys11 Try.f11.results [false] [.code b11] (entE 0 0 sig11 (x0, x1, ())) (entL sig11 (x0, x1, ())) = some ([Dyn.mk (Ty.int IntKind.i64) (x1 - (↑(List.length x0) : Int))], [], [InR IntKind.i64 (x1 - (↑(List.length x0) : Int)), Decidable.decide (x1 - (↑(List.length x0) : Int) < 0) = Bool.false]) := by kernel_rfl
theorem at11 (x0 : List (Int × Int × Int × Unit)) (x1 : Int) (h : P11 x0 x1) (K : Ctx) (q : Nat → Value) : AtV Try.prog 11 (PostR kds11 oks11 [⟨Ty.int IntKind.i64, g11_0 x0 x1⟩] [] [] q K) 12 K q [] [.code b11] (entE 0 0 sig11 (x0, x1, ())) (entL sig11 (x0, x1, ())) := by
  unfold P11 at h
  unfold g11_0
  obtain ⟨s0, h⟩ := h
  by_cases b0 : (Decidable.decide (x1 - (↑(List.length x0) : Int) < 0)) = true
  · try simp only [if_pos b0] at h ⊢
    exact AtV.fin Try.func11 tabOk ext11Ok mixed (p11_0 x0 x1) ⟨s0, b0, trivial⟩
  · try simp only [if_neg b0] at h ⊢
    replace b0 := Bool.eq_false_iff.2 b0
    exact AtV.fin Try.func11 tabOk ext11Ok mixed (p11_1 x0 x1) ⟨s0, b0, trivial⟩

def S11 : Am.Spec := { sig := sig11, pre := fun ⟨x0, x1, _⟩ => P11 x0 x1, res := fun ⟨x0, x1, _⟩ => [⟨Ty.int IntKind.i64, g11_0 x0 x1⟩], kds := kds11 }
theorem con11 : Contract Try.prog 11 S11 := contract_of Try.func11 hb11 (Nat.le_of_ble_eq_true (by kernel_rfl)) (fun ⟨x0, x1, _⟩ h _ K q => at11 x0 x1 h K q)


theorem g11_le (x0 : List (Int × Int × Int × Unit)) (x1 : Int) (h : 0 ≤ x1) (hi : InR .i64 x1) (hw : Wf (.sl (.cons (.int .i64) (.cons (.int .i64) (.cons (.int .i64) .unit)))) x0) (hg : ¬ g11_0 x0 x1 < 0) : P11 x0 x1 ∧ g11_0 x0 x1 ≤ x1 - x0.length := by
  have hm : x0.length ≤ 9223372036854775807 := hw.1
  rw [i64_iff] at hi
  unfold g11_0 P11 at *
  simp only [decide_eq_true_eq, i64_iff] at *
  refine ⟨?_, ?_⟩
  · repeat' (first | apply And.intro | split)
    all_goals first | trivial | omega
  · split at hg <;> rename_i hc
    · omega
    · rw [if_neg hc]; omega

end Go.Proofs.Ytpcfcplggpchjaa

/- Function 51 (laws.szWorker): its runs between cut points. Written by a program of this repo (gen). -/
set_option linter.unusedVariables false
set_option linter.unusedSimpArgs false
set_option maxRecDepth 100000
namespace Go.Proofs.Ytpcfcplggpchjaa
open Go Go.Am Go.Proofs
def ext51 : Ext := []
theorem ext51Ok : ExtOk Try.prog ext51 := trivial

noncomputable def b51 : Code := bodyOf Try.f51
theorem hb51 : Try.f51.body = some b51 := by kernel_rfl
def sig51 : List AT := [AT.v (Ty.cons Ty.str (Ty.cons (Ty.int IntKind.i64) (Ty.cons (Ty.int IntKind.i64) Ty.unit))), AT.v (Ty.int IntKind.i64)]
def tys51 : List Ty := [Ty.int IntKind.i64]
def kds51 : List RK := []
def oks51 : List AT := owns sig51
def P51 (x0 : ByteArray × Int × Int × Unit) (x1 : Int) : Prop := ((InR IntKind.i64 (x1 - (↑(ByteArray.size (Prod.fst x0)) : Int))) ∧ True)
def g51_0 (x0 : ByteArray × Int × Int × Unit) (x1 : Int) : Int := (if (Decidable.decide (x1 - (↑(ByteArray.size (Prod.fst x0)) : Int) < 0)) = true then -1 else x1 - (↑(ByteArray.size (Prod.fst x0)) : Int))
theorem p51_0 (x0 : ByteArray × Int × Int × Unit) (x1 : Int) : runF tab ext51 false 13 [] 2000 [] oks51 kds51 tys51 Try.f51.results [true] [.code b51] (entE 0 0 sig51 (x0, x1, ())) (entL sig51 (x0, x1, ())) = some ([Dyn.mk (Ty.int IntKind.i64) (-1)], [], [InR IntKind.i64 (x1 - (↑(ByteArray.size (Prod.fst x0)) : Int)), Decidable.decide (x1 - (↑(ByteArray.size (Prod.fst x0)) : Int) < 0) = Bool.true]) := by kernel_rfl
theorem p51_1 (x0 : ByteArray × Int × Int × Unit) (x1 : Int) : runF tab ext51 false 13 [] 2000 [] oks51 kds51 tys51 Try.f51.results [false] [.code b51] (entE 0 0 sig51 (x0, x1, ())) (entL sig51 (x0, x1, ())) = some ([Dyn.mk (Ty.int IntKind.i64) (x1 - (↑(ByteArray.size (Prod.fst x0)) : Int))], [], [InR IntKind.i64 (x1 - (↑(ByteArray.size (Prod.fst x0)) : Int)), Decidable.decide (x1 - (↑(ByteArray.size (Prod.fst x0)) : Int) < 0) = Bool.false]) := by kernel_rfl
theorem at51 (x0 : ByteArray × Int × Int × Unit) (x1 : Int) (h : P51 x0 x1) (K : Ctx) (q : Nat → Value) : AtV Try.prog 51 (PostR kds51 oks51 [⟨Ty.int IntKind.i64, g51_0 x0 x1⟩] [] [] q K) 13 K q [] [.code b51] (entE 0 0 sig51 (x0, x1, ())) (entL sig51 (x0, x1, ())) := by
  unfold P51 at h
  unfold g51_0
  obtain ⟨s0, h⟩ := h
  by_cases b0 : (Decidable.decide (x1 - (↑(ByteArray.size (Prod.fst x0)) : Int) < 0)) = true
  · try simp only [if_pos b0] at h ⊢
    exact AtV.fin Try.func51 tabOk ext51Ok mixed (p51_0 x0 x1) ⟨s0, b0, trivial⟩
  · try simp only [if_neg b0] at h ⊢
    replace b0 := Bool.eq_false_iff.2 b0
    exact AtV.fin Try.func51 tabOk ext51Ok mixed (p51_1 x0 x1) ⟨s0, b0, trivial⟩

def S51 : Am.Spec := { sig := sig51, pre := fun ⟨x0, x1, _⟩ => P51 x0 x1, res := fun ⟨x0, x1, _⟩ => [⟨Ty.int IntKind.i64, g51_0 x0 x1⟩], kds := kds51 }
theorem con51 : Contract Try.prog 51 S51 := contract_of Try.func51 hb51 (Nat.le_of_ble_eq_true (by kernel_rfl)) (fun ⟨x0, x1, _⟩ h _ K q => at51 x0 x1 h K q)


theorem sz51 (x0 : (ByteArray × Int × Int × Unit)) (x1 : Int) (h : 0 ≤ x1) (hi : InR .i64 x1) (hw : Wf (.cons .str (.cons (.int .i64) (.cons (.int .i64) .unit))) x0) :
    P51 x0 x1 ∧ -1 ≤ g51_0 x0 x1 ∧ g51_0 x0 x1 ≤ x1 := by
  have h0 : x0.1.size ≤ 9223372036854775807 := hw.1
  rw [i64_iff] at hi
  unfold P51 g51_0
  simp only [decide_eq_true_eq, i64_iff]
  repeat' (first | apply And.intro | split)
  all_goals first | trivial | omega

end Go.Proofs.Ytpcfcplggpchjaa

/- Function 12 (laws.szWorkerS): its runs between cut points. Written by a program of this repo (gen). -/
set_option linter.unusedVariables false
set_option linter.unusedSimpArgs false
set_option maxRecDepth 100000
namespace Go.Proofs.Ytpcfcplggpchjaa
open Go Go.Am Go.Proofs
def ext12 : Ext := [(51, S51)]
theorem call12_51 : Callable Try.prog 51 := ⟨Try.f51, Try.func51, by kernel_rfl, by kernel_rfl⟩
theorem ext12Ok : ExtOk Try.prog ext12 := ⟨⟨call12_51, con51⟩, trivial⟩

noncomputable def b12 : Code := bodyOf Try.f12
theorem hb12 : Try.f12.body = some b12 := by kernel_rfl
def sig12 : List AT := [AT.v (Ty.sl (Ty.cons Ty.str (Ty.cons (Ty.int IntKind.i64) (Ty.cons (Ty.int IntKind.i64) Ty.unit)))), AT.v (Ty.int IntKind.i64)]
def tys12 : List Ty := [Ty.int IntKind.i64]
def kds12 : List RK := []
def oks12 : List AT := owns sig12
def E12_5 (v1 : Int) (v5 : Int) (x0 : List (ByteArray × Int × Int × Unit)) : Env := [(0, PV.a (Atom.sl (Ty.cons Ty.str (Ty.cons (Ty.int IntKind.i64) (Ty.cons (Ty.int IntKind.i64) Ty.unit))) x0)), (1, PV.a (Atom.val (Value.int IntKind.i64 v1))), (5, PV.a (Atom.val (Value.int IntKind.i64 v5)))]
def L12_5 (v1 : Int) (v5 : Int) (x0 : List (ByteArray × Int × Int × Unit)) : Heap := []
mutual
def R12 : Nat → List (ByteArray × Int × Int × Unit) → Int → List Dyn → Prop
  | 0, _, _, _ => False
  | n + 1, x0, x1, ds => ((InR IntKind.i64 (x1 - (↑(List.length x0) : Int))) ∧ (if (Decidable.decide (x1 - (↑(List.length x0) : Int) < 0)) = true then (ds = [Dyn.mk (Ty.int IntKind.i64) (-1)]) else (R12_5 n (x1 - (↑(List.length x0) : Int)) (0) (x0) ds)))
def R12_5 : Nat → Int → Int → List (ByteArray × Int × Int × Unit) → List Dyn → Prop
  | 0, _, _, _, _ => False
  | n + 1, v1, v5, x0, ds => (if (Decidable.decide (v5 < (↑(List.length x0) : Int))) = true then ((0 ≤ v5) ∧ (v5 < (↑(List.length x0) : Int)) ∧ ((P51 (List.getD x0 (Int.toNat v5) (ByteArray.empty, 0, 0, ())) v1) ∧ (if (Decidable.decide (g51_0 (List.getD x0 (Int.toNat v5) (ByteArray.empty, 0, 0, ())) v1 < 0)) = true then (ds = [Dyn.mk (Ty.int IntKind.i64) (-1)]) else ((InR IntKind.i64 (v5 + 1)) ∧ (R12_5 n (g51_0 (List.getD x0 (Int.toNat v5) (ByteArray.empty, 0, 0, ())) v1) (v5 + 1) (x0) ds))))) else (ds = [Dyn.mk (Ty.int IntKind.i64) v1]))
end
theorem p12_0 (x0 : List (ByteArray × Int × Int × Unit)) (x1 : Int) : runF tab ext12 false 27 [] 2000 [] oks12 kds12 tys12 Try.f12.results [true] [.code b12] (entE 0 0 sig12 (x0, x1, ())) (entL sig12 (x0, x1, ())) = some ([Dyn.mk (Ty.int IntKind.i64) (-1)], [], [InR IntKind.i64 (x1 - (↑(List.length x0) : Int)), Decidable.decide (x1 - (↑(List.length x0) : Int) < 0) = Bool.true]) := by kernel_rfl
theorem p12_1 (x0 : List (ByteArray × Int × Int × Unit)) (x1 : Int) : Am.runN tab ext12 false 27 [] 2000 [] [] [0, 1, 5] [] [false] [.code b12] (entE 0 0 sig12 (x0, x1, ())) (entL sig12 (x0, x1, ())) = some (cutAt b12 5, E12_5 (x1 - (↑(List.length x0) : Int)) (0) (x0), L12_5 (x1 - (↑(List.length x0) : Int)) (0) (x0), [InR IntKind.i64 (x1 - (↑(List.length x0) : Int)), Decidable.decide (x1 - (↑(List.length x0) : Int) < 0) = Bool.false]) := by kernel_rfl
theorem p12_2 (v1 : Int) (v5 : Int) (x0 : List (ByteArray × Int × Int × Unit)) : runF tab ext12 false 27 [] 2000 [] oks12 kds12 tys12 Try.f12.results [true, true] (cutAt b12 5) (E12_5 v1 v5 x0) (L12_5 v1 v5 x0) = some ([Dyn.mk (Ty.int IntKind.i64) (-1)], [], [Decidable.decide (v5 < (↑(List.length x0) : Int)) = Bool.true, 0 ≤ v5, v5 < (↑(List.length x0) : Int), P51 (List.getD x0 (Int.toNat v5) (ByteArray.empty, 0, 0, ())) v1, Decidable.decide (g51_0 (List.getD x0 (Int.toNat v5) (ByteArray.empty, 0, 0, ())) v1 < 0) = Bool.true]) := by kernel_rfl
theorem p12_3 (v1 : Int) (v5 : Int) (x0 : List (ByteArray × Int × Int × Unit)) : Am.runN tab ext12 false 27 [] 2000 [] [] [0, 1, 5] [] [true, false] (cutAt b12 5) (E12_5 v1 v5 x0) (L12_5 v1 v5 x0) = some (cutAt b12 5, E12_5 (g51_0 (List.getD x0 (Int.toNat v5) (ByteArray.empty, 0, 0, ())) v1) (v5 + 1) (x0), L12_5 (g51_0 (List.getD x0 (Int.toNat v5) (ByteArray.empty, 0, 0, ())) v1) (v5 + 1) (x0), [Decidable.decide (v5 < (↑(List.length x0) : Int)) = Bool.true, 0 ≤ v5, v5 < (↑(List.length x0) : Int), P51 (List.getD x0 (Int.toNat v5) (ByteArray.empty, 0, 0, ())) v1, Decidable.decide (g51_0 (List.getD x0 (Int.toNat v5) (ByteArray.empty, 0, 0, ())) v1 < 0) = Bool.false, InR IntKind.i64 (v5 + 1)]) := by kernel_rfl
theorem p12_4 (v1 : Int) (v5 : Int) (x0 : List (ByteArray × Int × Int × Unit)) : runF tab ext12 false 27 [] 2000 [] oks12 kds12 tys12 Try.f12.results [false] (cutAt b12 5) (E12_5 v1 v5 x0) (L12_5 v1 v5 x0) = some ([Dyn.mk (Ty.int IntKind.i64) v1], [], [Decidable.decide (v5 < (↑(List.length x0) : Int)) = Bool.false]) := by kernel_rfl
theorem snd12 : ∀ n, (∀ (x0 : List (ByteArray × Int × Int × Unit)) (x1 : Int) ds, R12 n x0 x1 ds → ∀ K q, AtV Try.prog 12 (PostR kds12 oks12 ds [] [] q K) 27 K q [] [.code b12] (entE 0 0 sig12 (x0, x1, ())) (entL sig12 (x0, x1, ()))) ∧ (∀ (v1 : Int) (v5 : Int) (x0 : List (ByteArray × Int × Int × Unit)) ds, R12_5 n v1 v5 x0 ds → ∀ K q, AtV Try.prog 12 (PostR kds12 oks12 ds [] [] q K) 27 K q [] (cutAt b12 5) (E12_5 v1 v5 x0) (L12_5 v1 v5 x0)) := by
  intro n
  induction n with
  | zero => exact ⟨fun _ _ _ h => by simp only [R12] at h, fun _ _ _ _ h => by simp only [R12_5] at h⟩
  | succ n ih =>
  obtain ⟨ih, ih5⟩ := ih
  refine ⟨?_, ?_⟩
  · intro x0 x1 ds h K q
    rw [R12] at h
    obtain ⟨s0, h⟩ := h
    by_cases b0 : (Decidable.decide (x1 - (↑(List.length x0) : Int) < 0)) = true
    · rw [if_pos b0] at h
      subst h
      exact AtV.fin Try.func12 tabOk ext12Ok mixed (p12_0 x0 x1) ⟨s0, b0, trivial⟩
    · rw [if_neg b0] at h
      replace b0 := Bool.eq_false_iff.2 b0
      exact AtV.runN tabOk ext12Ok mixed (p12_1 x0 x1) ⟨s0, b0, trivial⟩ (ih5 _ _ _ _ h K q)

  · intro v1 v5 x0 ds h K q
    rw [R12_5] at h
    by_cases b0 : (Decidable.decide (v5 < (↑(List.length x0) : Int))) = true
    · rw [if_pos b0] at h
      obtain ⟨s0, s1, h⟩ := h
      obtain ⟨s2, h⟩ := h
      by_cases b1 : (Decidable.decide (g51_0 (List.getD x0 (Int.toNat v5) (ByteArray.empty, 0, 0, ())) v1 < 0)) = true
      · rw [if_pos b1] at h
        subst h
        exact AtV.fin Try.func12 tabOk ext12Ok mixed (p12_2 v1 v5 x0) ⟨b0, s0, s1, s2, b1, trivial⟩
      · rw [if_neg b1] at h
        replace b1 := Bool.eq_false_iff.2 b1
        obtain ⟨s3, h⟩ := h
        exact AtV.runN tabOk ext12Ok mixed (p12_3 v1 v5 x0) ⟨b0, s0, s1, s2, b1, s3, trivial⟩ (ih5 _ _ _ _ h K q)
    · rw [if_neg b0] at h
      replace b0 := Bool.eq_false_iff.2 b0
      subst h
      exact AtV.fin Try.func12 tabOk ext12Ok mixed (p12_4 v1 v5 x0) ⟨b0, trivial⟩



def szL12 : List (ByteArray × Int × Int × Unit) → Int → Int
  | [], l => l
  | x :: r, l => if g51_0 x l < 0 then -1 else szL12 r (g51_0 x l)

theorem szL12_ok : ∀ (x0 : List (ByteArray × Int × Int × Unit)) (l : Int), 0 ≤ l → InR .i64 l → (∀ x ∈ x0, Wf (.cons .str (.cons (.int .i64) (.cons (.int .i64) .unit))) x) → szL12 x0 l ≤ l
  | [], l, _, _, _ => Int.le_refl _
  | x :: r, l, h, hi, hw => by
    obtain ⟨_, h2, h3⟩ := sz51 x l h hi (hw x (List.mem_cons_self ..))
    simp only [szL12]
    rw [i64_iff] at hi
    split
    · omega
    · have := szL12_ok r (g51_0 x l) (by omega) (by rw [i64_iff]; omega) (fun y hy => hw y (List.mem_cons_of_mem _ hy))
      omega

theorem run12 (x0 : List (ByteArray × Int × Int × Unit)) (hm : x0.length ≤ maxLen) (hw : ∀ x ∈ x0, Wf (.cons .str (.cons (.int .i64) (.cons (.int .i64) .unit))) x) : ∀ (k i : Nat) (l : Int), i + k = x0.length → 0 ≤ l → InR .i64 l →
    R12_5 (k + 1) l (i : Int) x0 [⟨.int .i64, szL12 (x0.drop i) l⟩] := by
  intro k
  induction k with
  | zero =>
    intro i l hi _ _
    rw [R12_5, if_neg (by simp; omega), drop_end x0 i (by omega)]
    rfl
  | succ k ih =>
    intro i l hi h0 hl
    rw [R12_5, if_pos (by simp; omega)]
    simp only [Int.toNat_natCast]
    have hmem : x0.getD i (ByteArray.empty, (0 : Int), (0 : Int), ()) ∈ x0 := by rw [getD_lt _ _ _ (by omega)]; exact List.getElem_mem _
    obtain ⟨h1, h2, h3⟩ := sz51 _ l h0 hl (hw _ hmem)
    refine ⟨by omega, by omega, h1, ?_⟩
    rw [drop_get x0 i (ByteArray.empty, (0 : Int), (0 : Int), ()) (by omega)]
    simp only [szL12]
    have hl' := hl
    rw [i64_iff] at hl'
    by_cases hn : g51_0 (x0.getD i (ByteArray.empty, (0 : Int), (0 : Int), ())) l < 0
    · rw [if_pos (by simpa using hn), if_pos hn]
    · rw [if_neg (by simpa using hn), if_neg hn]
      exact ⟨inR_up hm (by omega), ih (i + 1) _ (by omega) (by omega) (by rw [i64_iff]; omega)⟩

def g12_0 (x0 : List (ByteArray × Int × Int × Unit)) (x1 : Int) : Int := if x1 - x0.length < 0 then -1 else szL12 x0 (x1 - x0.length)
def P12 (x0 : List (ByteArray × Int × Int × Unit)) (x1 : Int) : Prop := 0 ≤ x1

theorem g12_le (x0 : List (ByteArray × Int × Int × Unit)) (x1 : Int) (h : 0 ≤ x1) (hi : InR .i64 x1) (hw : Wf (.sl (.cons .str (.cons (.int .i64) (.cons (.int .i64) .unit)))) x0) (hg : ¬ g12_0 x0 x1 < 0) : g12_0 x0 x1 ≤ x1 - x0.length := by
  unfold g12_0 at hg ⊢
  rw [i64_iff] at hi
  split
  · rename_i h1
    rw [if_pos h1] at hg
    omega
  · exact szL12_ok x0 _ (by omega) (by rw [i64_iff]; omega) hw.2

theorem top12 (x0 : List (ByteArray × Int × Int × Unit)) (x1 : Int) (hw : Wf (.sl (.cons .str (.cons (.int .i64) (.cons (.int .i64) .unit)))) x0) (hi : InR .i64 x1) (h : 0 ≤ x1) : R12 (x0.length + 1 + 1) x0 x1 [⟨Ty.int .i64, g12_0 x0 x1⟩] := by
  have hm : x0.length ≤ maxLen := hw.1
  have hm' : x0.length ≤ 9223372036854775807 := hm
  rw [i64_iff] at hi
  rw [R12]
  refine ⟨by rw [i64_iff]; omega, ?_⟩
  unfold g12_0
  by_cases hn : x1 - (x0.length : Int) < 0
  · rw [if_pos (by simpa using hn), if_pos hn]
  · rw [if_neg (by simpa using hn), if_neg hn]
    have := run12 x0 hm hw.2 x0.length 0 (x1 - x0.length) (by omega) (by omega) (by rw [i64_iff]; omega)
    simpa using this

def S12 : Am.Spec := { sig := sig12, pre := fun ⟨x0, x1, _⟩ => P12 x0 x1, res := fun ⟨x0, x1, _⟩ => [⟨Ty.int .i64, g12_0 x0 x1⟩] }
theorem con12 : Contract Try.prog 12 S12 := contract_of Try.func12 hb12 (Nat.le_of_ble_eq_true (by kernel_rfl)) (fun ⟨x0, x1, _⟩ h hwf K q =>
  (snd12 _).1 x0 x1 _ (top12 x0 x1 hwf.1 hwf.2.1 h) K q)

end Go.Proofs.Ytpcfcplggpchjaa

/- Function 52 (laws.szFare): its runs between cut points. Written by a program of this repo (gen). -/
set_option linter.unusedVariables false
set_option linter.unusedSimpArgs false
set_option maxRecDepth 100000
namespace Go.Proofs.Ytpcfcplggpchjaa
open Go Go.Am Go.Proofs
def ext52 : Ext := []
theorem ext52Ok : ExtOk Try.prog ext52 := trivial

noncomputable def b52 : Code := bodyOf Try.f52
theorem hb52 : Try.f52.body = some b52 := by kernel_rfl
def sig52 : List AT := [AT.v (Ty.cons Ty.str (Ty.cons (Ty.int IntKind.i64) (Ty.cons (Ty.int IntKind.i64) (Ty.cons (Ty.int IntKind.i64) Ty.unit)))), AT.v (Ty.int IntKind.i64)]
def tys52 : List Ty := [Ty.int IntKind.i64]
def kds52 : List RK := []
def oks52 : List AT := owns sig52
def P52 (x0 : ByteArray × Int × Int × Int × Unit) (x1 : Int) : Prop := ((InR IntKind.i64 (x1 - (↑(ByteArray.size (Prod.fst x0)) : Int))) ∧ True)
def g52_0 (x0 : ByteArray × Int × Int × Int × Unit) (x1 : Int) : Int := (if (Decidable.decide (x1 - (↑(ByteArray.size (Prod.fst x0)) : Int) < 0)) = true then -1 else x1 - (↑(ByteArray.size (Prod.fst x0)) : Int))
theorem p52_0 (x0 : ByteArray × Int × Int × Int × Unit) (x1 : Int) : runF tab ext52 false 13 [] 2000 [] oks52 kds52 tys52 Try.f52.results [true] [.code b52] (entE 0 0 sig52 (x0, x1, ())) (entL sig52 (x0, x1, ())) = some ([Dyn.mk (Ty.int IntKind.i64) (-1)], [], [InR IntKind.i64 (x1 - (↑(ByteArray.size (Prod.fst x0)) : Int)), Decidable.decide (x1 - (↑(ByteArray.size (Prod.fst x0)) : Int) < 0) = Bool.true]) := by kernel_rfl
theorem p52_1 (x0 : ByteArray × Int × Int × Int × Unit) (x1 : Int) : runF tab ext52 false 13 [] 2000 [] oks52 kds52 tys52 Try.f52.results [false] [.code b52] (entE 0 0 sig52 (x0, x1, ())) (entL sig52 (x0, x1, ())) = some ([Dyn.mk (Ty.int IntKind.i64) (x1 - (↑(ByteArray.size (Prod.fst x0)) : Int))], [], [InR IntKind.i64 (x1 - (↑(ByteArray.size (Prod.fst x0)) : Int)), Decidable.decide (x1 - (↑(ByteArray.size (Prod.fst x0)) : Int) < 0) = Bool.false]) := by kernel_rfl
theorem at52 (x0 : ByteArray × Int × Int × Int × Unit) (x1 : Int) (h : P52 x0 x1) (K : Ctx) (q : Nat → Value) : AtV Try.prog 52 (PostR kds52 oks52 [⟨Ty.int IntKind.i64, g52_0 x0 x1⟩] [] [] q K) 13 K q [] [.code b52] (entE 0 0 sig52 (x0, x1, ())) (entL sig52 (x0, x1, ())) := by
  unfold P52 at h
  unfold g52_0
  obtain ⟨s0, h⟩ := h
  by_cases b0 : (Decidable.decide (x1 - (↑(ByteArray.size (Prod.fst x0)) : Int) < 0)) = true
  · try simp only [if_pos b0] at h ⊢
    exact AtV.fin Try.func52 tabOk ext52Ok mixed (p52_0 x0 x1) ⟨s0, b0, trivial⟩
  · try simp only [if_neg b0] at h ⊢
    replace b0 := Bool.eq_false_iff.2 b0
    exact AtV.fin Try.func52 tabOk ext52Ok mixed (p52_1 x0 x1) ⟨s0, b0, trivial⟩

def S52 : Am.Spec := { sig := sig52, pre := fun ⟨x0, x1, _⟩ => P52 x0 x1, res := fun ⟨x0, x1, _⟩ => [⟨Ty.int IntKind.i64, g52_0 x0 x1⟩], kds := kds52 }
theorem con52 : Contract Try.prog 52 S52 := contract_of Try.func52 hb52 (Nat.le_of_ble_eq_true (by kernel_rfl)) (fun ⟨x0, x1, _⟩ h _ K q => at52 x0 x1 h K q)


theorem sz52 (x0 : (ByteArray × Int × Int × Int × Unit)) (x1 : Int) (h : 0 ≤ x1) (hi : InR .i64 x1) (hw : Wf (.cons .str (.cons (.int .i64) (.cons (.int .i64) (.cons (.int .i64) .unit)))) x0) :
    P52 x0 x1 ∧ -1 ≤ g52_0 x0 x1 ∧ g52_0 x0 x1 ≤ x1 := by
  have h0 : x0.1.size ≤ 9223372036854775807 := hw.1
  rw [i64_iff] at hi
  unfold P52 g52_0
  simp only [decide_eq_true_eq, i64_iff]
  repeat' (first | apply And.intro | split)
  all_goals first | trivial | omega

end Go.Proofs.Ytpcfcplggpchjaa

/- Function 13 (laws.szFareS): its runs between cut points. Written by a program of this repo (gen). -/
set_option linter.unusedVariables false
set_option linter.unusedSimpArgs false
set_option maxRecDepth 100000
namespace Go.Proofs.Ytpcfcplggpchjaa
open Go Go.Am Go.Proofs
def ext13 : Ext := [(52, S52)]
theorem call13_52 : Callable Try.prog 52 := ⟨Try.f52, Try.func52, by kernel_rfl, by kernel_rfl⟩
theorem ext13Ok : ExtOk Try.prog ext13 := ⟨⟨call13_52, con52⟩, trivial⟩

noncomputable def b13 : Code := bodyOf Try.f13
theorem hb13 : Try.f13.body = some b13 := by kernel_rfl
def sig13 : List AT := [AT.v (Ty.sl (Ty.cons Ty.str (Ty.cons (Ty.int IntKind.i64) (Ty.cons (Ty.int IntKind.i64) (Ty.cons (Ty.int IntKind.i64) Ty.unit))))), AT.v (Ty.int IntKind.i64)]
def tys13 : List Ty := [Ty.int IntKind.i64]
def kds13 : List RK := []
def oks13 : List AT := owns sig13
def E13_5 (v1 : Int) (v5 : Int) (x0 : List (ByteArray × Int × Int × Int × Unit)) : Env := [(0, PV.a (Atom.sl (Ty.cons Ty.str (Ty.cons (Ty.int IntKind.i64) (Ty.cons (Ty.int IntKind.i64) (Ty.cons (Ty.int IntKind.i64) Ty.unit)))) x0)), (1, PV.a (Atom.val (Value.int IntKind.i64 v1))), (5, PV.a (Atom.val (Value.int IntKind.i64 v5)))]
def L13_5 (v1 : Int) (v5 : Int) (x0 : List (ByteArray × Int × Int × Int × Unit)) : Heap := []
mutual
def R13 : Nat → List (ByteArray × Int × Int × Int × Unit) → Int → List Dyn → Prop
  | 0, _, _, _ => False
  | n + 1, x0, x1, ds => ((InR IntKind.i64 (x1 - (↑(List.length x0) : Int))) ∧ (if (Decidable.decide (x1 - (↑(List.length x0) : Int) < 0)) = true then (ds = [Dyn.mk (Ty.int IntKind.i64) (-1)]) else (R13_5 n (x1 - (↑(List.length x0) : Int)) (0) (x0) ds)))
def R13_5 : Nat → Int → Int → List (ByteArray × Int × Int × Int × Unit) → List Dyn → Prop
  | 0, _, _, _, _ => False
  | n + 1, v1, v5, x0, ds => (if (Decidable.decide (v5 < (↑(List.length x0) : Int))) = true then ((0 ≤ v5) ∧ (v5 < (↑(List.length x0) : Int)) ∧ ((P52 (List.getD x0 (Int.toNat v5) (ByteArray.empty, 0, 0, 0, ())) v1) ∧ (if (Decidable.decide (g52_0 (List.getD x0 (Int.toNat v5) (ByteArray.empty, 0, 0, 0, ())) v1 < 0)) = true then (ds = [Dyn.mk (Ty.int IntKind.i64) (-1)]) else ((InR IntKind.i64 (v5 + 1)) ∧ (R13_5 n (g52_0 (List.getD x0 (Int.toNat v5) (ByteArray.empty, 0, 0, 0, ())) v1) (v5 + 1) (x0) ds))))) else (ds = [Dyn.mk (Ty.int IntKind.i64) v1]))
end
theorem p13_0 (x0 : List (ByteArray × Int × Int × Int × Unit)) (x1 : Int) : runF tab ext13 false 27 [] 2000 [] oks13 kds13 tys13 Try.f13.results [true] [.code b13] (entE 0 0 sig13 (x0, x1, ())) (entL sig13 (x0, x1, ())) = some ([Dyn.mk (Ty.int IntKind.i64) (-1)], [], [InR IntKind.i64 (x1 - (↑(List.length x0) : Int)), Decidable.decide (x1 - (↑(List.length x0) : Int) < 0) = Bool.true]) := by kernel_rfl
theorem p13_1 (x0 : List (ByteArray × Int × Int × Int × Unit)) (x1 : Int) : Am.runN tab ext13 false 27 [] 2000 [] [] [0, 1, 5] [] [false] [.code b13] (entE 0 0 sig13 (x0, x1, ())) (entL sig13 (x0, x1, ())) = some (cutAt b13 5, E13_5 (x1 - (↑(List.length x0) : Int)) (0) (x0), L13_5 (x1 - (↑(List.length x0) : Int)) (0) (x0), [InR IntKind.i64 (x1 - (↑(List.length x0) : Int)), Decidable.decide (x1 - (↑(List.length x0) : Int) < 0) = Bool.false]) := by kernel_rfl
theorem p13_2 (v1 : Int) (v5 : Int) (x0 : List (ByteArray × Int × Int × Int × Unit)) : runF tab ext13 false 27 [] 2000 [] oks13 kds13 tys13 Try.f13.results [true, true] (cutAt b13 5) (E13_5 v1 v5 x0) (L13_5 v1 v5 x0) = some ([Dyn.mk (Ty.int IntKind.i64) (-1)], [], [Decidable.decide (v5 < (↑(List.length x0) : Int)) = Bool.true, 0 ≤ v5, v5 < (↑(List.length x0) : Int), P52 (List.getD x0 (Int.toNat v5) (ByteArray.empty, 0, 0, 0, ())) v1, Decidable.decide (g52_0 (List.getD x0 (Int.toNat v5) (ByteArray.empty, 0, 0, 0, ())) v1 < 0) = Bool.true]) := by kernel_rfl
theorem p13_3 (v1 : Int) (v5 : Int) (x0 : List (ByteArray × Int × Int × Int × Unit)) : Am.runN tab ext13 false 27 [] 2000 [] [] [0, 1, 5] [] [true, false] (cutAt b13 5) (E13_5 v1 v5 x0) (L13_5 v1 v5 x0) = some (cutAt b13 5, E13_5 (g52_0 (List.getD x0 (Int.toNat v5) (ByteArray.empty, 0, 0, 0, ())) v1) (v5 + 1) (x0), L13_5 (g52_0 (List.getD x0 (Int.toNat v5) (ByteArray.empty, 0, 0, 0, ())) v1) (v5 + 1) (x0), [Decidable.decide (v5 < (↑(List.length x0) : Int)) = Bool.true, 0 ≤ v5, v5 < (↑(List.length x0) : Int), P52 (List.getD x0 (Int.toNat v5) (ByteArray.empty, 0, 0, 0, ())) v1, Decidable.decide (g52_0 (List.getD x0 (Int.toNat v5) (ByteArray.empty, 0, 0, 0, ())) v1 < 0) = Bool.false, InR IntKind.i64 (v5 + 1)]) := by kernel_rfl
theorem p13_4 (v1 : Int) (v5 : Int) (x0 : List (ByteArray × Int × Int × Int × Unit)) : runF tab ext13 false 27 [] 2000 [] oks13 kds13 tys13 Try.f13.results [false] (cutAt b13 5) (E13_5 v1 v5 x0) (L13_5 v1 v5 x0) = some ([Dyn.mk (Ty.int IntKind.i64) v1], [], [Decidable.decide (v5 < (↑(List.length x0) : Int)) = Bool.false]) := by kernel_rfl
theorem snd13 : ∀ n, (∀ (x0 : List (ByteArray × Int × Int × Int × Unit)) (x1 : Int) ds, R13 n x0 x1 ds → ∀ K q, AtV Try.prog 13 (PostR kds13 oks13 ds [] [] q K) 27 K q [] [.code b13] (entE 0 0 sig13 (x0, x1, ())) (entL sig13 (x0, x1, ()))) ∧ (∀ (v1 : Int) (v5 : Int) (x0 : List (ByteArray × Int × Int × Int × Unit)) ds, R13_5 n v1 v5 x0 ds → ∀ K q, AtV Try.prog 13 (PostR kds13 oks13 ds [] [] q K) 27 K q [] (cutAt b13 5) (E13_5 v1 v5 x0) (L13_5 v1 v5 x0)) := by
  intro n
  induction n with
  | zero => exact ⟨fun _ _ _ h => by simp only [R13] at h, fun _ _ _ _ h => by simp only [R13_5] at h⟩
  | succ n ih =>
  obtain ⟨ih, ih5⟩ := ih
  refine ⟨?_, ?_⟩
  · intro x0 x1 ds h K q
    rw [R13] at h
    obtain ⟨s0, h⟩ := h
    by_cases b0 : (Decidable.decide (x1 - (↑(List.length x0) : Int) < 0)) = true
    · rw [if_pos b0] at h
      subst h
      exact AtV.fin Try.func13 tabOk ext13Ok mixed (p13_0 x0 x1) ⟨s0, b0, trivial⟩
    · rw [if_neg b0] at h
      replace b0 := Bool.eq_false_iff.2 b0
      exact AtV.runN tabOk ext13Ok mixed (p13_1 x0 x1) ⟨s0, b0, trivial⟩ (ih5 _ _ _ _ h K q)

  · intro v1 v5 x0 ds h K q
    rw [R13_5] at h
    by_cases b0 : (Decidable.decide (v5 < (↑(List.length x0) : Int))) = true
    · rw [if_pos b0] at h
      obtain ⟨s0, s1, h⟩ := h
      obtain ⟨s2, h⟩ := h
      by_cases b1 : (Decidable.decide (g52_0 (List.getD x0 (Int.toNat v5) (ByteArray.empty, 0, 0, 0, ())) v1 < 0)) = true
      · rw [if_pos b1] at h
        subst h
        exact AtV.fin Try.func13 tabOk ext13Ok mixed (p13_2 v1 v5 x0) ⟨b0, s0, s1, s2, b1, trivial⟩
      · rw [if_neg b1] at h
        replace b1 := Bool.eq_false_iff.2 b1
        obtain ⟨s3, h⟩ := h
        exact AtV.runN tabOk ext13Ok mixed (p13_3 v1 v5 x0) ⟨b0, s0, s1, s2, b1, s3, trivial⟩ (ih5 _ _ _ _ h K q)
    · rw [if_neg b0] at h
      replace b0 := Bool.eq_false_iff.2 b0
      subst h
      exact AtV.fin Try.func13 tabOk ext13Ok mixed (p13_4 v1 v5 x0) ⟨b0, trivial⟩



def szL13 : List (ByteArray × Int × Int × Int × Unit) → Int → Int
  | [], l => l
  | x :: r, l => if g52_0 x l < 0 then -1 else szL13 r (g52_0 x l)

theorem szL13_ok : ∀ (x0 : List (ByteArray × Int × Int × Int × Unit)) (l : Int), 0 ≤ l → InR .i64 l → (∀ x ∈ x0, Wf (.cons .str (.cons (.int .i64) (.cons (.int .i64) (.cons (.int .i64) .unit)))) x) → szL13 x0 l ≤ l
  | [], l, _, _, _ => Int.le_refl _
  | x :: r, l, h, hi, hw => by
    obtain ⟨_, h2, h3⟩ := sz52 x l h hi (hw x (List.mem_cons_self ..))
    simp only [szL13]
    rw [i64_iff] at hi
    split
    · omega
    · have := szL13_ok r (g52_0 x l) (by omega) (by rw [i64_iff]; omega) (fun y hy => hw y (List.mem_cons_of_mem _ hy))
      omega

theorem run13 (x0 : List (ByteArray × Int × Int × Int × Unit)) (hm : x0.length ≤ maxLen) (hw : ∀ x ∈ x0, Wf (.cons .str (.cons (.int .i64) (.cons (.int .i64) (.cons (.int .i64) .unit)))) x) : ∀ (k i : Nat) (l : Int), i + k = x0.length → 0 ≤ l → InR .i64 l →
    R13_5 (k + 1) l (i : Int) x0 [⟨.int .i64, szL13 (x0.drop i) l⟩] := by
  intro k
  induction k with
  | zero =>
    intro i l hi _ _
    rw [R13_5, if_neg (by simp; omega), drop_end x0 i (by omega)]
    rfl
  | succ k ih =>
    intro i l hi h0 hl
    rw [R13_5, if_pos (by simp; omega)]
    simp only [Int.toNat_natCast]
    have hmem : x0.getD i (ByteArray.empty, (0 : Int), (0 : Int), (0 : Int), ()) ∈ x0 := by rw [getD_lt _ _ _ (by omega)]; exact List.getElem_mem _
    obtain ⟨h1, h2, h3⟩ := sz52 _ l h0 hl (hw _ hmem)
    refine ⟨by omega, by omega, h1, ?_⟩
    rw [drop_get x0 i (ByteArray.empty, (0 : Int), (0 : Int), (0 : Int), ()) (by omega)]
    simp only [szL13]
    have hl' := hl
    rw [i64_iff] at hl'
    by_cases hn : g52_0 (x0.getD i (ByteArray.empty, (0 : Int), (0 : Int), (0 : Int), ())) l < 0
    · rw [if_pos (by simpa using hn), if_pos hn]
    · rw [if_neg (by simpa using hn), if_neg hn]
      exact ⟨inR_up hm (by omega), ih (i + 1) _ (by omega) (by omega) (by rw [i64_iff]; omega)⟩

def g13_0 (x0 : List (ByteArray × Int × Int × Int × Unit)) (x1 : Int) : Int := if x1 - x0.length < 0 then -1 else szL13 x0 (x1 - x0.length)
def P13 (x0 : List (ByteArray × Int × Int × Int × Unit)) (x1 : Int) : Prop := 0 ≤ x1

theorem g13_le (x0 : List (ByteArray × Int × Int × Int × Unit)) (x1 : Int) (h : 0 ≤ x1) (hi : InR .i64 x1) (hw : Wf (.sl (.cons .str (.cons (.int .i64) (.cons (.int .i64) (.cons (.int .i64) .unit))))) x0) (hg : ¬ g13_0 x0 x1 < 0) : g13_0 x0 x1 ≤ x1 - x0.length := by
  unfold g13_0 at hg ⊢
  rw [i64_iff] at hi
  split
  · rename_i h1
    rw [if_pos h1] at hg
    omega
  · exact szL13_ok x0 _ (by omega) (by rw [i64_iff]; omega) hw.2

theorem top13 (x0 : List (ByteArray × Int × Int × Int × Unit)) (x1 : Int) (hw : Wf (.sl (.cons .str (.cons (.int .i64) (.cons (.int .i64) (.cons (.int .i64) .unit))))) x0) (hi : InR .i64 x1) (h : 0 ≤ x1) : R13 (x0.length + 1 + 1) x0 x1 [⟨Ty.int .i64, g13_0 x0 x1⟩] := by
  have hm : x0.length ≤ maxLen := hw.1
  have hm' : x0.length ≤ 9223372036854775807 := hm
  rw [i64_iff] at hi
  rw [R13]
  refine ⟨by rw [i64_iff]; omega, ?_⟩
  unfold g13_0
  by_cases hn : x1 - (x0.length : Int) < 0
  · rw [if_pos (by simpa using hn), if_pos hn]
  · rw [if_neg (by simpa using hn), if_neg hn]
    have := run13 x0 hm hw.2 x0.length 0 (x1 - x0.length) (by omega) (by omega) (by rw [i64_iff]; omega)
    simpa using this

def S13 : Am.Spec := { sig := sig13, pre := fun ⟨x0, x1, _⟩ => P13 x0 x1, res := fun ⟨x0, x1, _⟩ => [⟨Ty.int .i64, g13_0 x0 x1⟩] }
theorem con13 : Contract Try.prog 13 S13 := contract_of Try.func13 hb13 (Nat.le_of_ble_eq_true (by kernel_rfl)) (fun ⟨x0, x1, _⟩ h hwf K q =>
  (snd13 _).1 x0 x1 _ (top13 x0 x1 hwf.1 hwf.2.1 h) K q)

end Go.Proofs.Ytpcfcplggpchjaa

/- Function 14 (laws.szTestS): its runs between cut points. Written by a program of this repo (gen). -/
set_option linter.unusedVariables false
set_option linter.unusedSimpArgs false
set_option maxRecDepth 100000
namespace Go.Proofs.Ytpcfcplggpchjaa
open Go Go.Am Go.Proofs
def ext14 : Ext := []
theorem ext14Ok : ExtOk Try.prog ext14 := trivial

noncomputable def b14 : Code := bodyOf Try.f14
theorem hb14 : Try.f14.body = some b14 := by kernel_rfl
def sig14 : List AT := [AT.v (Ty.sl (Ty.cons (Ty.int IntKind.i64) (Ty.cons (Ty.int IntKind.i64) (Ty.cons (Ty.int IntKind.i64) Ty.unit)))), AT.v (Ty.int IntKind.i64)]
def tys14 : List Ty := [Ty.int IntKind.i64]
def kds14 : List RK := []
def oks14 : List AT := owns sig14
def P14 (x0 : List (Int × Int × Int × Unit)) (x1 : Int) : Prop := ((InR IntKind.i64 (x1 - (↑(List.length x0) : Int))) ∧ True)
def g14_0 (x0 : List (Int × Int × Int × Unit)) (x1 : Int) : Int := (if (Decidable.decide (x1 - (↑(List.length x0) : Int) < 0)) = true then -1 else x1 - (↑(List.length x0) : Int))
theorem p14_0 (x0 : List (Int × Int × Int × Unit)) (x1 : Int) : runF tab ext14 false 12 [] 2000 [] oks14 kds14 tys14 Try.f14.results [true] [.code b14] (entE 0 0 sig14 (x0, x1, ())) (entL sig14 (x0, x1, ())) = some ([Dyn.mk (Ty.int IntKind.i64) (-1)], [], [InR IntKind.i64 (x1 - (↑(List.length x0) : Int)), Decidable.decide (x1 - (↑(List.length x0) : Int) < 0) = Bool.true]) := by kernel_rfl
theorem p14_1 (x0 : List (Int × Int × Int × Unit)) (x1 : Int) : runF tab ext14 false 12 [] 2000 [] oks14 kds14 tys14 Try.f14.results [false] [.code b14] (entE 0 0 sig14 (x0, x1, ())) (entL sig14 (x0, x1, ())) = some ([Dyn.mk (Ty.int IntKind.i64) (x1 - (↑(List.length x0) : Int))], [], [InR IntKind.i64 (x1 - (↑(List.length x0) : Int)), Decidable.decide (x1 - (↑(List.length x0) : Int) < 0) = Bool.false]) := by kernel_rfl
theorem at14 (x0 : List (Int × Int × Int × Unit)) (x1 : Int) (h : P14 x0 x1) (K : Ctx) (q : Nat → Value) : AtV Try.prog 14 (PostR kds14 oks14 [⟨Ty.int IntKind.i64, g14_0 x0 x1⟩] [] [] q K) 12 K q [] [.code b14] (entE 0 0 sig14 (x0, x1, ())) (entL sig14 (x0, x1, ())) := by
  unfold P14 at h
  unfold g14_0
  obtain ⟨s0, h⟩ := h
  by_cases b0 : (Decidable.decide (x1 - (↑(List.length x0) : Int) < 0)) = true
  · try simp only [if_pos b0] at h ⊢
    exact AtV.fin Try.func14 tabOk ext14Ok mixed (p14_0 x0 x1) ⟨s0, b0, trivial⟩
  · try simp only [if_neg b0] at h ⊢
    replace b0 := Bool.eq_false_iff.2 b0
    exact AtV.fin Try.func14 tabOk ext14Ok mixed (p14_1 x0 x1) ⟨s0, b0, trivial⟩

def S14 : Am.Spec := { sig := sig14, pre := fun ⟨x0, x1, _⟩ => P14 x0 x1, res := fun ⟨x0, x1, _⟩ => [⟨Ty.int IntKind.i64, g14_0 x0 x1⟩], kds := kds14 }
theorem con14 : Contract Try.prog 14 S14 := contract_of Try.func14 hb14 (Nat.le_of_ble_eq_true (by kernel_rfl)) (fun ⟨x0, x1, _⟩ h _ K q => at14 x0 x1 h K q)


theorem g14_le (x0 : List (Int × Int × Int × Unit)) (x1 : Int) (h : 0 ≤ x1) (hi : InR .i64 x1) (hw : Wf (.sl (.cons (.int .i64) (.cons (.int .i64) (.cons (.int .i64) .unit)))) x0) (hg : ¬ g14_0 x0 x1 < 0) : P14 x0 x1 ∧ g14_0 x0 x1 ≤ x1 - x0.length := by
  have hm : x0.length ≤ 9223372036854775807 := hw.1
  rw [i64_iff] at hi
  unfold g14_0 P14 at *
  simp only [decide_eq_true_eq, i64_iff] at *
  refine ⟨?_, ?_⟩
  · repeat' (first | apply And.intro | split)
    all_goals first | trivial | omega
  · split at hg <;> rename_i hc
    · omega
    · rw [if_neg hc]; omega

end Go.Proofs.Ytpcfcplggpchjaa

/- Function 53 (laws.szHelper): its runs between cut points. Written by a program of this repo (gen). -/
set_option linter.unusedVariables false
set_option linter.unusedSimpArgs false
set_option maxRecDepth 100000
namespace Go.Proofs.Ytpcfcplggpchjaa
open Go Go.Am Go.Proofs
def ext53 : Ext := []
theorem ext53Ok : ExtOk Try.prog ext53 := trivial

noncomputable def b53 : Code := bodyOf Try.f53
theorem hb53 : Try.f53.body = some b53 := by kernel_rfl
def sig53 : List AT := [AT.v (Ty.cons Ty.str (Ty.cons (Ty.int IntKind.i64) (Ty.cons (Ty.int IntKind.i64) Ty.unit))), AT.v (Ty.int IntKind.i64)]
def tys53 : List Ty := [Ty.int IntKind.i64]
def kds53 : List RK := []
def oks53 : List AT := owns sig53
def P53 (x0 : ByteArray × Int × Int × Unit) (x1 : Int) : Prop := ((InR IntKind.i64 (x1 - (↑(ByteArray.size (Prod.fst x0)) : Int))) ∧ True)
def g53_0 (x0 : ByteArray × Int × Int × Unit) (x1 : Int) : Int := (if (Decidable.decide (x1 - (↑(ByteArray.size (Prod.fst x0)) : Int) < 0)) = true then -1 else x1 - (↑(ByteArray.size (Prod.fst x0)) : Int))
theorem p53_0 (x0 : ByteArray × Int × Int × Unit) (x1 : Int) : runF tab ext53 false 13 [] 2000 [] oks53 kds53 tys53 Try.f53.results [true] [.code b53] (entE 0 0 sig53 (x0, x1, ())) (entL sig53 (x0, x1, ())) = some ([Dyn.mk (Ty.int IntKind.i64) (-1)], [], [InR IntKind.i64 (x1 - (↑(ByteArray.size (Prod.fst x0)) : Int)), Decidable.decide (x1 - (↑(ByteArray.size (Prod.fst x0)) : Int) < 0) = Bool.true]) := by kernel_rfl
theorem p53_1 (x0 : ByteArray × Int × Int × Unit) (x1 : Int) : runF tab ext53 false 13 [] 2000 [] oks53 kds53 tys53 Try.f53.results [false] [.code b53] (entE 0 0 sig53 (x0, x1, ())) (entL sig53 (x0, x1, ())) = some ([Dyn.mk (Ty.int IntKind.i64) (x1 - (↑(ByteArray.size (Prod.fst x0)) : Int))], [], [InR IntKind.i64 (x1 - (↑(ByteArray.size (Prod.fst x0)) : Int)), Decidable.decide (x1 - (↑(ByteArray.size (Prod.fst x0)) : Int) < 0) = Bool.false]) := by kernel_rfl
theorem at53 (x0 : ByteArray × Int × Int × Unit) (x1 : Int) (h : P53 x0 x1) (K : Ctx) (q : Nat → Value) : AtV Try.prog 53 (PostR kds53 oks53 [⟨Ty.int IntKind.i64, g53_0 x0 x1⟩] [] [] q K) 13 K q [] [.code b53] (entE 0 0 sig53 (x0, x1, ())) (entL sig53 (x0, x1, ())) := by
  unfold P53 at h
  unfold g53_0
  obtain ⟨s0, h⟩ := h
  by_cases b0 : (Decidable.decide (x1 - (↑(ByteArray.size (Prod.fst x0)) : Int) < 0)) = true
  · try simp only [if_pos b0] at h ⊢
    exact AtV.fin Try.func53 tabOk ext53Ok mixed (p53_0 x0 x1) ⟨s0, b0, trivial⟩
  · try simp only [if_neg b0] at h ⊢
    replace b0 := Bool.eq_false_iff.2 b0
    exact AtV.fin Try.func53 tabOk ext53Ok mixed (p53_1 x0 x1) ⟨s0, b0, trivial⟩

def S53 : Am.Spec := { sig := sig53, pre := fun ⟨x0, x1, _⟩ => P53 x0 x1, res := fun ⟨x0, x1, _⟩ => [⟨Ty.int IntKind.i64, g53_0 x0 x1⟩], kds := kds53 }
theorem con53 : Contract Try.prog 53 S53 := contract_of Try.func53 hb53 (Nat.le_of_ble_eq_true (by kernel_rfl)) (fun ⟨x0, x1, _⟩ h _ K q => at53 x0 x1 h K q)


theorem sz53 (x0 : (ByteArray × Int × Int × Unit)) (x1 : Int) (h : 0 ≤ x1) (hi : InR .i64 x1) (hw : Wf (.cons .str (.cons (.int .i64) (.cons (.int .i64) .unit))) x0) :
    P53 x0 x1 ∧ -1 ≤ g53_0 x0 x1 ∧ g53_0 x0 x1 ≤ x1 := by
  have h0 : x0.1.size ≤ 9223372036854775807 := hw.1
  rw [i64_iff] at hi
  unfold P53 g53_0
  simp only [decide_eq_true_eq, i64_iff]
  repeat' (first | apply And.intro | split)
  all_goals first | trivial | omega

end Go.Proofs.Ytpcfcplggpchjaa

/- Function 15 (laws.szHelperS): its runs between cut points. Written by a program of this repo (gen). -/
set_option linter.unusedVariables false
set_option linter.unusedSimpArgs false
set_option maxRecDepth 100000
namespace Go.Proofs.Ytpcfcplggpchjaa
open Go Go.Am Go.Proofs
def ext15 : Ext := [(53, S53)]
theorem call15_53 : Callable Try.prog 53 := ⟨Try.f53, Try.func53, by kernel_rfl, by kernel_rfl⟩
theorem ext15Ok : ExtOk Try.prog ext15 := ⟨⟨call15_53, con53⟩, trivial⟩

noncomputable def b15 : Code := bodyOf Try.f15
theorem hb15 : Try.f15.body = some b15 := by kernel_rfl
def sig15 : List AT := [AT.v (Ty.sl (Ty.cons Ty.str (Ty.cons (Ty.int IntKind.i64) (Ty.cons (Ty.int IntKind.i64) Ty.unit)))), AT.v (Ty.int IntKind.i64)]
def tys15 : List Ty := [Ty.int IntKind.i64]
def kds15 : List RK := []
def oks15 : List AT := owns sig15
def E15_5 (v1 : Int) (v5 : Int) (x0 : List (ByteArray × Int × Int × Unit)) : Env := [(0, PV.a (Atom.sl (Ty.cons Ty.str (Ty.cons (Ty.int IntKind.i64) (Ty.cons (Ty.int IntKind.i64) Ty.unit))) x0)), (1, PV.a (Atom.val (Value.int IntKind.i64 v1))), (5, PV.a (Atom.val (Value.int IntKind.i64 v5)))]
def L15_5 (v1 : Int) (v5 : Int) (x0 : List (ByteArray × Int × Int × Unit)) : Heap := []
mutual
def R15 : Nat → List (ByteArray × Int × Int × Unit) → Int → List Dyn → Prop
  | 0, _, _, _ => False
  | n + 1, x0, x1, ds => ((InR IntKind.i64 (x1 - (↑(List.length x0) : Int))) ∧ (if (Decidable.decide (x1 - (↑(List.length x0) : Int) < 0)) = true then (ds = [Dyn.mk (Ty.int IntKind.i64) (-1)]) else (R15_5 n (x1 - (↑(List.length x0) : Int)) (0) (x0) ds)))
def R15_5 : Nat → Int → Int → List (ByteArray × Int × Int × Unit) → List Dyn → Prop
  | 0, _, _, _, _ => False
  | n + 1, v1, v5, x0, ds => (if (Decidable.decide (v5 < (↑(List.length x0) : Int))) = true then ((0 ≤ v5) ∧ (v5 < (↑(List.length x0) : Int)) ∧ ((P53 (List.getD x0 (Int.toNat v5) (ByteArray.empty, 0, 0, ())) v1) ∧ (if (Decidable.decide (g53_0 (List.getD x0 (Int.toNat v5) (ByteArray.empty, 0, 0, ())) v1 < 0)) = true then (ds = [Dyn.mk (Ty.int IntKind.i64) (-1)]) else ((InR IntKind.i64 (v5 + 1)) ∧ (R15_5 n (g53_0 (List.getD x0 (Int.toNat v5) (ByteArray.empty, 0, 0, ())) v1) (v5 + 1) (x0) ds))))) else (ds = [Dyn.mk (Ty.int IntKind.i64) v1]))
end
theorem p15_0 (x0 : List (ByteArray × Int × Int × Unit)) (x1 : Int) : runF tab ext15 false 27 [] 2000 [] oks15 kds15 tys15 Try.f15.results [true] [.code b15] (entE 0 0 sig15 (x0, x1, ())) (entL sig15 (x0, x1, ())) = some ([Dyn.mk (Ty.int IntKind.i64) (-1)], [], [InR IntKind.i64 (x1 - (↑(List.length x0) : Int)), Decidable.decide (x1 - (↑(List.length x0) : Int) < 0) = Bool.true]) := by kernel_rfl
theorem p15_1 (x0 : List (ByteArray × Int × Int × Unit)) (x1 : Int) : Am.runN tab ext15 false 27 [] 2000 [] [] [0, 1, 5] [] [false] [.code b15] (entE 0 0 sig15 (x0, x1, ())) (entL sig15 (x0, x1, ())) = some (cutAt b15 5, E15_5 (x1 - (↑(List.length x0) : Int)) (0) (x0), L15_5 (x1 - (↑(List.length x0) : Int)) (0) (x0), [InR IntKind.i64 (x1 - (↑(List.length x0) : Int)), Decidable.decide (x1 - (↑(List.length x0) : Int) < 0) = Bool.false]) := by kernel_rfl
theorem p15_2 (v1 : Int) (v5 : Int) (x0 : List (ByteArray × Int × Int × Unit)) : runF tab ext15 false 27 [] 2000 [] oks15 kds15 tys15 Try.f15.results [true, true] (cutAt b15 5) (E15_5 v1 v5 x0) (L15_5 v1 v5 x0) = some ([Dyn.mk (Ty.int IntKind.i64) (-1)], [], [Decidable.decide (v5 < (↑(List.length x0) : Int)) = Bool.true, 0 ≤ v5, v5 < (↑(List.length x0) : Int), P53 (List.getD x0 (Int.toNat v5) (ByteArray.empty, 0, 0, ())) v1, Decidable.decide (g53_0 (List.getD x0 (Int.toNat v5) (ByteArray.empty, 0, 0, ())) v1 < 0) = Bool.true]) := by kernel_rfl
theorem p15_3 (v1 : Int) (v5 : Int) (x0 : List (ByteArray × Int × Int × Unit)) : Am.runN tab ext15 false 27 [] 2000 [] [] [0, 1, 5] [] [true, false] (cutAt b15 5) (E15_5 v1 v5 x0) (L15_5 v1 v5 x0) = some (cutAt b15 5, E15_5 (g53_0 (List.getD x0 (Int.toNat v5) (ByteArray.empty, 0, 0, ())) v1) (v5 + 1) (x0), L15_5 (g53_0 (List.getD x0 (Int.toNat v5) (ByteArray.empty, 0, 0, ())) v1) (v5 + 1) (x0), [Decidable.decide (v5 < (↑(List.length x0) : Int)) = Bool.true, 0 ≤ v5, v5 < (↑(List.length x0) : Int), P53 (List.getD x0 (Int.toNat v5) (ByteArray.empty, 0, 0, ())) v1, Decidable.decide (g53_0 (List.getD x0 (Int.toNat v5) (ByteArray.empty, 0, 0, ())) v1 < 0) = Bool.false, InR IntKind.i64 (v5 + 1)]) := by kernel_rfl
theorem p15_4 (v1 : Int) (v5 : Int) (x0 : List (ByteArray × Int × Int × Unit)) : runF tab ext15 false 27 [] 2000 [] oks15 kds15 tys15 Try.f15.results [false] (cutAt b15 5) (E15_5 v1 v5 x0) (L15_5 v1 v5 x0) = some ([Dyn.mk (Ty.int IntKind.i64) v1], [], [Decidable.decide (v5 < (↑(List.length x0) : Int)) = Bool.false]) := by kernel_rfl
theorem snd15 : ∀ n, (∀ (x0 : List (ByteArray × Int × Int × Unit)) (x1 : Int) ds, R15 n x0 x1 ds → ∀ K q, AtV Try.prog 15 (PostR kds15 oks15 ds [] [] q K) 27 K q [] [.code b15] (entE 0 0 sig15 (x0, x1, ())) (entL sig15 (x0, x1, ()))) ∧ (∀ (v1 : Int) (v5 : Int) (x0 : List (ByteArray × Int × Int × Unit)) ds, R15_5 n v1 v5 x0 ds → ∀ K q, AtV Try.prog 15 (PostR kds15 oks15 ds [] [] q K) 27 K q [] (cutAt b15 5) (E15_5 v1 v5 x0) (L15_5 v1 v5 x0)) := by
  intro n
  induction n with
  | zero => exact ⟨fun _ _ _ h => by simp only [R15] at h, fun _ _ _ _ h => by simp only [R15_5] at h⟩
  | succ n ih =>
  obtain ⟨ih, ih5⟩ := ih
  refine ⟨?_, ?_⟩
  · intro x0 x1 ds h K q
    rw [R15] at h
    obtain ⟨s0, h⟩ := h
    by_cases b0 : (Decidable.decide (x1 - (↑(List.length x0) : Int) < 0)) = true
    · rw [if_pos b0] at h
      subst h
      exact AtV.fin Try.func15 tabOk ext15Ok mixed (p15_0 x0 x1) ⟨s0, b0, trivial⟩
    · rw [if_neg b0] at h
      replace b0 := Bool.eq_false_iff.2 b0
      exact AtV.runN tabOk ext15Ok mixed (p15_1 x0 x1) ⟨s0, b0, trivial⟩ (ih5 _ _ _ _ h K q)

  · intro v1 v5 x0 ds h K q
    rw [R15_5] at h
    by_cases b0 : (Decidable.decide (v5 < (↑(List.length x0) : Int))) = true
    · rw [if_pos b0] at h
      obtain ⟨s0, s1, h⟩ := h
      obtain ⟨s2, h⟩ := h
      by_cases b1 : (Decidable.decide (g53_0 (List.getD x0 (Int.toNat v5) (ByteArray.empty, 0, 0, ())) v1 < 0)) = true
      · rw [if_pos b1] at h
        subst h
        exact AtV.fin Try.func15 tabOk ext15Ok mixed (p15_2 v1 v5 x0) ⟨b0, s0, s1, s2, b1, trivial⟩
      · rw [if_neg b1] at h
        replace b1 := Bool.eq_false_iff.2 b1
        obtain ⟨s3, h⟩ := h
        exact AtV.runN tabOk ext15Ok mixed (p15_3 v1 v5 x0) ⟨b0, s0, s1, s2, b1, s3, trivial⟩ (ih5 _ _ _ _ h K q)
    · rw [if_neg b0] at h
      replace b0 := Bool.eq_false_iff.2 b0
      subst h
      exact AtV.fin Try.func15 tabOk ext15Ok mixed (p15_4 v1 v5 x0) ⟨b0, trivial⟩



def szL15 : List (ByteArray × Int × Int × Unit) → Int → Int
  | [], l => l
  | x :: r, l => if g53_0 x l < 0 then -1 else szL15 r (g53_0 x l)

theorem szL15_ok : ∀ (x0 : List (ByteArray × Int × Int × Unit)) (l : Int), 0 ≤ l → InR .i64 l → (∀ x ∈ x0, Wf (.cons .str (.cons (.int .i64) (.cons (.int .i64) .unit))) x) → szL15 x0 l ≤ l
  | [], l, _, _, _ => Int.le_refl _
  | x :: r, l, h, hi, hw => by
    obtain ⟨_, h2, h3⟩ := sz53 x l h hi (hw x (List.mem_cons_self ..))
    simp only [szL15]
    rw [i64_iff] at hi
    split
    · omega
    · have := szL15_ok r (g53_0 x l) (by omega) (by rw [i64_iff]; omega) (fun y hy => hw y (List.mem_cons_of_mem _ hy))
      omega

theorem run15 (x0 : List (ByteArray × Int × Int × Unit)) (hm : x0.length ≤ maxLen) (hw : ∀ x ∈ x0, Wf (.cons .str (.cons (.int .i64) (.cons (.int .i64) .unit))) x) : ∀ (k i : Nat) (l : Int), i + k = x0.length → 0 ≤ l → InR .i64 l →
    R15_5 (k + 1) l (i : Int) x0 [⟨.int .i64, szL15 (x0.drop i) l⟩] := by
  intro k
  induction k with
  | zero =>
    intro i l hi _ _
    rw [R15_5, if_neg (by simp; omega), drop_end x0 i (by omega)]
    rfl
  | succ k ih =>
    intro i l hi h0 hl
    rw [R15_5, if_pos (by simp; omega)]
    simp only [Int.toNat_natCast]
    have hmem : x0.getD i (ByteArray.empty, (0 : Int), (0 : Int), ()) ∈ x0 := by rw [getD_lt _ _ _ (by omega)]; exact List.getElem_mem _
    obtain ⟨h1, h2, h3⟩ := sz53 _ l h0 hl (hw _ hmem)
    refine ⟨by omega, by omega, h1, ?_⟩
    rw [drop_get x0 i (ByteArray.empty, (0 : Int), (0 : Int), ()) (by omega)]
    simp only [szL15]
    have hl' := hl
    rw [i64_iff] at hl'
    by_cases hn : g53_0 (x0.getD i (ByteArray.empty, (0 : Int), (0 : Int), ())) l < 0
    · rw [if_pos (by simpa using hn), if_pos hn]
    · rw [if_neg (by simpa using hn), if_neg hn]
      exact ⟨inR_up hm (by omega), ih (i + 1) _ (by omega) (by omega) (by rw [i64_iff]; omega)⟩

def g15_0 (x0 : List (ByteArray × Int × Int × Unit)) (x1 : Int) : Int := if x1 - x0.length < 0 then -1 else szL15 x0 (x1 - x0.length)
def P15 (x0 : List (ByteArray × Int × Int × Unit)) (x1 : Int) : Prop := 0 ≤ x1

theorem g15_le (x0 : List (ByteArray × Int × Int × Unit)) (x1 : Int) (h : 0 ≤ x1) (hi : InR .i64 x1) (hw : Wf (.sl (.cons .str (.cons (.int .i64) (.cons (.int .i64) .unit)))) x0) (hg : ¬ g15_0 x0 x1 < 0) : g15_0 x0 x1 ≤ x1 - x0.length := by
  unfold g15_0 at hg ⊢
  rw [i64_iff] at hi
  split
  · rename_i h1
    rw [if_pos h1] at hg
    omega
  · exact szL15_ok x0 _ (by omega) (by rw [i64_iff]; omega) hw.2

theorem top15 (x0 : List (ByteArray × Int × Int × Unit)) (x1 : Int) (hw : Wf (.sl (.cons .str (.cons (.int .i64) (.cons (.int .i64) .unit)))) x0) (hi : InR .i64 x1) (h : 0 ≤ x1) : R15 (x0.length + 1 + 1) x0 x1 [⟨Ty.int .i64, g15_0 x0 x1⟩] := by
  have hm : x0.length ≤ maxLen := hw.1
  have hm' : x0.length ≤ 9223372036854775807 := hm
  rw [i64_iff] at hi
  rw [R15]
  refine ⟨by rw [i64_iff]; omega, ?_⟩
  unfold g15_0
  by_cases hn : x1 - (x0.length : Int) < 0
  · rw [if_pos (by simpa using hn), if_pos hn]
  · rw [if_neg (by simpa using hn), if_neg hn]
    have := run15 x0 hm hw.2 x0.length 0 (x1 - x0.length) (by omega) (by omega) (by rw [i64_iff]; omega)
    simpa using this

def S15 : Am.Spec := { sig := sig15, pre := fun ⟨x0, x1, _⟩ => P15 x0 x1, res := fun ⟨x0, x1, _⟩ => [⟨Ty.int .i64, g15_0 x0 x1⟩] }
theorem con15 : Contract Try.prog 15 S15 := contract_of Try.func15 hb15 (Nat.le_of_ble_eq_true (by kernel_rfl)) (fun ⟨x0, x1, _⟩ h hwf K q =>
  (snd15 _).1 x0 x1 _ (top15 x0 x1 hwf.1 hwf.2.1 h) K q)

end Go.Proofs.Ytpcfcplggpchjaa

/- Function 54 (laws.szTask): its runs between cut points. Written by a program of this repo (gen). -/
set_option linter.unusedVariables false
set_option linter.unusedSimpArgs false
set_option maxRecDepth 100000
namespace Go.Proofs.Ytpcfcplggpchjaa
open Go Go.Am Go.Proofs
def ext54 : Ext := []
theorem ext54Ok : ExtOk Try.prog ext54 := trivial

noncomputable def b54 : Code := bodyOf Try.f54
theorem hb54 : Try.f54.body = some b54 := by kernel_rfl
def sig54 : List AT := [AT.v (Ty.cons Ty.str (Ty.cons (Ty.int IntKind.i64) (Ty.cons (Ty.int IntKind.i64) Ty.unit))), AT.v (Ty.int IntKind.i64)]
def tys54 : List Ty := [Ty.int IntKind.i64]
def kds54 : List RK := []
def oks54 : List AT := owns sig54
def P54 (x0 : ByteArray × Int × Int × Unit) (x1 : Int) : Prop := ((InR IntKind.i64 (x1 - (↑(ByteArray.size (Prod.fst x0)) : Int))) ∧ True)
def g54_0 (x0 : ByteArray × Int × Int × Unit) (x1 : Int) : Int := (if (Decidable.decide (x1 - (↑(ByteArray.size (Prod.fst x0)) : Int) < 0)) = true then -1 else x1 - (↑(ByteArray.size (Prod.fst x0)) : Int))
theorem p54_0 (x0 : ByteArray × Int × Int × Unit) (x1 : Int) : runF tab ext54 false 13 [] 2000 [] oks54 kds54 tys54 Try.f54.results [true] [.code b54] (entE 0 0 sig54 (x0, x1, ())) (entL sig54 (x0, x1, ())) = some ([Dyn.mk (Ty.int IntKind.i64) (-1)], [], [InR IntKind.i64 (x1 - (↑(ByteArray.size (Prod.fst x0)) : Int)), Decidable.decide (x1 - (↑(ByteArray.size (Prod.fst x0)) : Int) < 0) = Bool.true]) := by kernel_rfl
theorem p54_1 (x0 : ByteArray × Int × Int × Unit) (x1 : Int) : runF tab ext54 false 13 [] 2000 [] oks54 kds54 tys54 Try.f54.results [false] [.code b54] (entE 0 0 sig54 (x0, x1, ())) (entL sig54 (x0, x1, ())) = some ([Dyn.mk (Ty.int IntKind.i64) (x1 - (↑(ByteArray.size (Prod.fst x0)) : Int))], [], [InR IntKind.i64 (x1 - (↑(ByteArray.size (Prod.fst x0)) : Int)), Decidable.decide (x1 - (↑(ByteArray.size (Prod.fst x0)) : Int) < 0) = Bool.false]) := by kernel_rfl
theorem at54 (x0 : ByteArray × Int × Int × Unit) (x1 : Int) (h : P54 x0 x1) (K : Ctx) (q : Nat → Value) : AtV Try.prog 54 (PostR kds54 oks54 [⟨Ty.int IntKind.i64, g54_0 x0 x1⟩] [] [] q K) 13 K q [] [.code b54] (entE 0 0 sig54 (x0, x1, ())) (entL sig54 (x0, x1, ())) := by
  unfold P54 at h
  unfold g54_0
  obtain ⟨s0, h⟩ := h
  by_cases b0 : (Decidable.decide (x1 - (↑(ByteArray.size (Prod.fst x0)) : Int) < 0)) = true
  · try simp only [if_pos b0] at h ⊢
    exact AtV.fin Try.func54 tabOk ext54Ok mixed (p54_0 x0 x1) ⟨s0, b0, trivial⟩
  · try simp only [if_neg b0] at h ⊢
    replace b0 := Bool.eq_false_iff.2 b0
    exact AtV.fin Try.func54 tabOk ext54Ok mixed (p54_1 x0 x1) ⟨s0, b0, trivial⟩

def S54 : Am.Spec := { sig := sig54, pre := fun ⟨x0, x1, _⟩ => P54 x0 x1, res := fun ⟨x0, x1, _⟩ => [⟨Ty.int IntKind.i64, g54_0 x0 x1⟩], kds := kds54 }
theorem con54 : Contract Try.prog 54 S54 := contract_of Try.func54 hb54 (Nat.le_of_ble_eq_true (by kernel_rfl)) (fun ⟨x0, x1, _⟩ h _ K q => at54 x0 x1 h K q)


theorem sz54 (x0 : (ByteArray × Int × Int × Unit)) (x1 : Int) (h : 0 ≤ x1) (hi : InR .i64 x1) (hw : Wf (.cons .str (.cons (.int .i64) (.cons (.int .i64) .unit))) x0) :
    P54 x0 x1 ∧ -1 ≤ g54_0 x0 x1 ∧ g54_0 x0 x1 ≤ x1 := by
  have h0 : x0.1.size ≤ 9223372036854775807 := hw.1
  rw [i64_iff] at hi
  unfold P54 g54_0
  simp only [decide_eq_true_eq, i64_iff]
  repeat' (first | apply And.intro | split)
  all_goals first | trivial | omega

end Go.Proofs.Ytpcfcplggpchjaa

/- Function 16 (laws.szTaskS): its runs between cut points. Written by a program of this repo (gen). -/
set_option linter.unusedVariables false
set_option linter.unusedSimpArgs false
set_option maxRecDepth 100000
namespace Go.Proofs.Ytpcfcplggpchjaa
open Go Go.Am Go.Proofs
def ext16 : Ext := [(54, S54)]
theorem call16_54 : Callable Try.prog 54 := ⟨Try.f54, Try.func54, by kernel_rfl, by kernel_rfl⟩
theorem ext16Ok : ExtOk Try.prog ext16 := ⟨⟨call16_54, con54⟩, trivial⟩

noncomputable def b16 : Code := bodyOf Try.f16
theorem hb16 : Try.f16.body = some b16 := by kernel_rfl
def sig16 : List AT := [AT.v (Ty.sl (Ty.cons Ty.str (Ty.cons (Ty.int IntKind.i64) (Ty.cons (Ty.int IntKind.i64) Ty.unit)))), AT.v (Ty.int IntKind.i64)]
def tys16 : List Ty := [Ty.int IntKind.i64]
def kds16 : List RK := []
def oks16 : List AT := owns sig16
def E16_5 (v1 : Int) (v5 : Int) (x0 : List (ByteArray × Int × Int × Unit)) : Env := [(0, PV.a (Atom.sl (Ty.cons Ty.str (Ty.cons (Ty.int IntKind.i64) (Ty.cons (Ty.int IntKind.i64) Ty.unit))) x0)), (1, PV.a (Atom.val (Value.int IntKind.i64 v1))), (5, PV.a (Atom.val (Value.int IntKind.i64 v5)))]
def L16_5 (v1 : Int) (v5 : Int) (x0 : List (ByteArray × Int × Int × Unit)) : Heap := []
mutual
def R16 : Nat → List (ByteArray × Int × Int × Unit) → Int → List Dyn → Prop
  | 0, _, _, _ => False
  | n + 1, x0, x1, ds => ((InR IntKind.i64 (x1 - (↑(List.length x0) : Int))) ∧ (if (Decidable.decide (x1 - (↑(List.length x0) : Int) < 0)) = true then (ds = [Dyn.mk (Ty.int IntKind.i64) (-1)]) else (R16_5 n (x1 - (↑(List.length x0) : Int)) (0) (x0) ds)))
def R16_5 : Nat → Int → Int → List (ByteArray × Int × Int × Unit) → List Dyn → Prop
  | 0, _, _, _, _ => False
  | n + 1, v1, v5, x0, ds => (if (Decidable.decide (v5 < (↑(List.length x0) : Int))) = true then ((0 ≤ v5) ∧ (v5 < (↑(List.length x0) : Int)) ∧ ((P54 (List.getD x0 (Int.toNat v5) (ByteArray.empty, 0, 0, ())) v1) ∧ (if (Decidable.decide (g54_0 (List.getD x0 (Int.toNat v5) (ByteArray.empty, 0, 0, ())) v1 < 0)) = true then (ds = [Dyn.mk (Ty.int IntKind.i64) (-1)]) else ((InR IntKind.i64 (v5 + 1)) ∧ (R16_5 n (g54_0 (List.getD x0 (Int.toNat v5) (ByteArray.empty, 0, 0, ())) v1) (v5 + 1) (x0) ds))))) else (ds = [Dyn.mk (Ty.int IntKind.i64) v1]))
end
theorem p16_0 (x0 : List (ByteArray × Int × Int × Unit)) (x1 : Int) : runF tab ext16 false 27 [] 2000 [] oks16 kds16 tys16 Try.f16.results [true] [.code b16] (entE 0 0 sig16 (x0, x1, ())) (entL sig16 (x0, x1, ())) = some ([Dyn.mk (Ty.int IntKind.i64) (-1)], [], [InR IntKind.i64 (x1 - (↑(List.length x0) : Int)), Decidable.decide (x1 - (↑(List.length x0) : Int) < 0) = Bool.true]) := by kernel_rfl
theorem p16_1 (x0 : List (ByteArray × Int × Int × Unit)) (x1 : Int) : Am.runN tab ext16 false 27 [] 2000 [] [] [0, 1, 5] [] [false] [.code b16] (entE 0 0 sig16 (x0, x1, ())) (entL sig16 (x0, x1, ())) = some (cutAt b16 5, E16_5 (x1 - (↑(List.length x0) : Int)) (0) (x0), L16_5 (x1 - (↑(List.length x0) : Int)) (0) (x0), [InR IntKind.i64 (x1 - (↑(List.length x0) : Int)), Decidable.decide (x1 - (↑(List.length x0) : Int) < 0) = Bool.false]) := by kernel_rfl
theorem p16_2 (v1 : Int) (v5 : Int) (x0 : List (ByteArray × Int × Int × Unit)) : runF tab ext16 false 27 [] 2000 [] oks16 kds16 tys16 Try.f16.results [true, true] (cutAt b16 5) (E16_5 v1 v5 x0) (L16_5 v1 v5 x0) = some ([Dyn.mk (Ty.int IntKind.i64) (-1)], [], [Decidable.decide (v5 < (↑(List.length x0) : Int)) = Bool.true, 0 ≤ v5, v5 < (↑(List.length x0) : Int), P54 (List.getD x0 (Int.toNat v5) (ByteArray.empty, 0, 0, ())) v1, Decidable.decide (g54_0 (List.getD x0 (Int.toNat v5) (ByteArray.empty, 0, 0, ())) v1 < 0) = Bool.true]) := by kernel_rfl
theorem p16_3 (v1 : Int) (v5 : Int) (x0 : List (ByteArray × Int × Int × Unit)) : Am.runN tab ext16 false 27 [] 2000 [] [] [0, 1, 5] [] [true, false] (cutAt b16 5) (E16_5 v1 v5 x0) (L16_5 v1 v5 x0) = some (cutAt b16 5, E16_5 (g54_0 (List.getD x0 (Int.toNat v5) (ByteArray.empty, 0, 0, ())) v1) (v5 + 1) (x0), L16_5 (g54_0 (List.getD x0 (Int.toNat v5) (ByteArray.empty, 0, 0, ())) v1) (v5 + 1) (x0), [Decidable.decide (v5 < (↑(List.length x0) : Int)) = Bool.true, 0 ≤ v5, v5 < (↑(List.length x0) : Int), P54 (List.getD x0 (Int.toNat v5) (ByteArray.empty, 0, 0, ())) v1, Decidable.decide (g54_0 (List.getD x0 (Int.toNat v5) (ByteArray.empty, 0, 0, ())) v1 < 0) = Bool.false, InR IntKind.i64 (v5 + 1)]) := by kernel_rfl
theorem p16_4 (v1 : Int) (v5 : Int) (x0 : List (ByteArray × Int × Int × Unit)) : runF tab ext16 false 27 [] 2000 [] oks16 kds16 tys16 Try.f16.results [false] (cutAt b16 5) (E16_5 v1 v5 x0) (L16_5 v1 v5 x0) = some ([Dyn.mk (Ty.int IntKind.i64) v1], [], [Decidable.decide (v5 < (↑(List.length x0) : Int)) = Bool.false]) := by kernel_rfl
theorem snd16 : ∀ n, (∀ (x0 : List (ByteArray × Int × Int × Unit)) (x1 : Int) ds, R16 n x0 x1 ds → ∀ K q, AtV Try.prog 16 (PostR kds16 oks16 ds [] [] q K) 27 K q [] [.code b16] (entE 0 0 sig16 (x0, x1, ())) (entL sig16 (x0, x1, ()))) ∧ (∀ (v1 : Int) (v5 : Int) (x0 : List (ByteArray × Int × Int × Unit)) ds, R16_5 n v1 v5 x0 ds → ∀ K q, AtV Try.prog 16 (PostR kds16 oks16 ds [] [] q K) 27 K q [] (cutAt b16 5) (E16_5 v1 v5 x0) (L16_5 v1 v5 x0)) := by
  intro n
  induction n with
  | zero => exact ⟨fun _ _ _ h => by simp only [R16] at h, fun _ _ _ _ h => by simp only [R16_5] at h⟩
  | succ n ih =>
  obtain ⟨ih, ih5⟩ := ih
  refine ⟨?_, ?_⟩
  · intro x0 x1 ds h K q
    rw [R16] at h
    obtain ⟨s0, h⟩ := h
    by_cases b0 : (Decidable.decide (x1 - (↑(List.length x0) : Int) < 0)) = true
    · rw [if_pos b0] at h
      subst h
      exact AtV.fin Try.func16 tabOk ext16Ok mixed (p16_0 x0 x1) ⟨s0, b0, trivial⟩
    · rw [if_neg b0] at h
      replace b0 := Bool.eq_false_iff.2 b0
      exact AtV.runN tabOk ext16Ok mixed (p16_1 x0 x1) ⟨s0, b0, trivial⟩ (ih5 _ _ _ _ h K q)

  · intro v1 v5 x0 ds h K q
    rw [R16_5] at h
    by_cases b0 : (Decidable.decide (v5 < (↑(List.length x0) : Int))) = true
    · rw [if_pos b0] at h
      obtain ⟨s0, s1, h⟩ := h
      obtain ⟨s2, h⟩ := h
      by_cases b1 : (Decidable.decide (g54_0 (List.getD x0 (Int.toNat v5) (ByteArray.empty, 0, 0, ())) v1 < 0)) = true
      · rw [if_pos b1] at h
        subst h
        exact AtV.fin Try.func16 tabOk ext16Ok mixed (p16_2 v1 v5 x0) ⟨b0, s0, s1, s2, b1, trivial⟩
      · rw [if_neg b1] at h
        replace b1 := Bool.eq_false_iff.2 b1
        obtain ⟨s3, h⟩ := h
        exact AtV.runN tabOk ext16Ok mixed (p16_3 v1 v5 x0) ⟨b0, s0, s1, s2, b1, s3, trivial⟩ (ih5 _ _ _ _ h K q)
    · rw [if_neg b0] at h
      replace b0 := Bool.eq_false_iff.2 b0
      subst h
      exact AtV.fin Try.func16 tabOk ext16Ok mixed (p16_4 v1 v5 x0) ⟨b0, trivial⟩



def szL16 : List (ByteArray × Int × Int × Unit) → Int → Int
  | [], l => l
  | x :: r, l => if g54_0 x l < 0 then -1 else szL16 r (g54_0 x l)

theorem szL16_ok : ∀ (x0 : List (ByteArray × Int × Int × Unit)) (l : Int), 0 ≤ l → InR .i64 l → (∀ x ∈ x0, Wf (.cons .str (.cons (.int .i64) (.cons (.int .i64) .unit))) x) → szL16 x0 l ≤ l
  | [], l, _, _, _ => Int.le_refl _
  | x :: r, l, h, hi, hw => by
    obtain ⟨_, h2, h3⟩ := sz54 x l h hi (hw x (List.mem_cons_self ..))
    simp only [szL16]
    rw [i64_iff] at hi
    split
    · omega
    · have := szL16_ok r (g54_0 x l) (by omega) (by rw [i64_iff]; omega) (fun y hy => hw y (List.mem_cons_of_mem _ hy))
      omega

theorem run16 (x0 : List (ByteArray × Int × Int × Unit)) (hm : x0.length ≤ maxLen) (hw : ∀ x ∈ x0, Wf (.cons .str (.cons (.int .i64) (.cons (.int .i64) .unit))) x) : ∀ (k i : Nat) (l : Int), i + k = x0.length → 0 ≤ l → InR .i64 l →
    R16_5 (k + 1) l (i : Int) x0 [⟨.int .i64, szL16 (x0.drop i) l⟩] := by
  intro k
  induction k with
  | zero =>
    intro i l hi _ _
    rw [R16_5, if_neg (by simp; omega), drop_end x0 i (by omega)]
    rfl
  | succ k ih =>
    intro i l hi h0 hl
    rw [R16_5, if_pos (by simp; omega)]
    simp only [Int.toNat_natCast]
    have hmem : x0.getD i (ByteArray.empty, (0 : Int), (0 : Int), ()) ∈ x0 := by rw [getD_lt _ _ _ (by omega)]; exact List.getElem_mem _
    obtain ⟨h1, h2, h3⟩ := sz54 _ l h0 hl (hw _ hmem)
    refine ⟨by omega, by omega, h1, ?_⟩
    rw [drop_get x0 i (ByteArray.empty, (0 : Int), (0 : Int), ()) (by omega)]
    simp only [szL16]
    have hl' := hl
    rw [i64_iff] at hl'
    by_cases hn : g54_0 (x0.getD i (ByteArray.empty, (0 : Int), (0 : Int), ())) l < 0
    · rw [if_pos (by simpa using hn), if_pos hn]
    · rw [if_neg (by simpa using hn), if_neg hn]
      exact ⟨inR_up hm (by omega), ih (i + 1) _ (by omega) (by omega) (by rw [i64_iff]; omega)⟩

def g16_0 (x0 : List (ByteArray × Int × Int × Unit)) (x1 : Int) : Int := if x1 - x0.length < 0 then -1 else szL16 x0 (x1 - x0.length)
def P16 (x0 : List (ByteArray × Int × Int × Unit)) (x1 : Int) : Prop := 0 ≤ x1

theorem g16_le (x0 : List (ByteArray × Int × Int × Unit)) (x1 : Int) (h : 0 ≤ x1) (hi : InR .i64 x1) (hw : Wf (.sl (.cons .str (.cons (.int .i64) (.cons (.int .i64) .unit)))) x0) (hg : ¬ g16_0 x0 x1 < 0) : g16_0 x0 x1 ≤ x1 - x0.length := by
  unfold g16_0 at hg ⊢
  rw [i64_iff] at hi
  split
  · rename_i h1
    rw [if_pos h1] at hg
    omega
  · exact szL16_ok x0 _ (by omega) (by rw [i64_iff]; omega) hw.2

theorem top16 (x0 : List (ByteArray × Int × Int × Unit)) (x1 : Int) (hw : Wf (.sl (.cons .str (.cons (.int .i64) (.cons (.int .i64) .unit)))) x0) (hi : InR .i64 x1) (h : 0 ≤ x1) : R16 (x0.length + 1 + 1) x0 x1 [⟨Ty.int .i64, g16_0 x0 x1⟩] := by
  have hm : x0.length ≤ maxLen := hw.1
  have hm' : x0.length ≤ 9223372036854775807 := hm
  rw [i64_iff] at hi
  rw [R16]
  refine ⟨by rw [i64_iff]; omega, ?_⟩
  unfold g16_0
  by_cases hn : x1 - (x0.length : Int) < 0
  · rw [if_pos (by simpa using hn), if_pos hn]
  · rw [if_neg (by simpa using hn), if_neg hn]
    have := run16 x0 hm hw.2 x0.length 0 (x1 - x0.length) (by omega) (by omega) (by rw [i64_iff]; omega)
    simpa using this

def S16 : Am.Spec := { sig := sig16, pre := fun ⟨x0, x1, _⟩ => P16 x0 x1, res := fun ⟨x0, x1, _⟩ => [⟨Ty.int .i64, g16_0 x0 x1⟩] }
theorem con16 : Contract Try.prog 16 S16 := contract_of Try.func16 hb16 (Nat.le_of_ble_eq_true (by kernel_rfl)) (fun ⟨x0, x1, _⟩ h hwf K q =>
  (snd16 _).1 x0 x1 _ (top16 x0 x1 hwf.1 hwf.2.1 h) K q)

end Go.Proofs.Ytpcfcplggpchjaa
