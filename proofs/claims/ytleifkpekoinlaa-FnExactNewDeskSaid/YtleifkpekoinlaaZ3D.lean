/- Several texts in one: the functions that this law reaches, and their laws. -/
import Derived.Test.YtleifkpekoinlaaZ3A
import Derived.Test.YtleifkpekoinlaaZ3B
import Derived.Test.YtleifkpekoinlaaZ3C

/- Function 22 (laws.markBendS): its runs between cut points. Written by a program of this repo (gen). -/
set_option linter.unusedVariables false
set_option linter.unusedSimpArgs false
set_option maxRecDepth 100000
namespace Go.Proofs.Ytleifkpekoinlaa
open Go Go.Am Go.Proofs
def ext22 : Ext := [(46, S46)]
theorem call22_46 : Callable Try.prog 46 := ⟨Try.f46, Try.func46, by kernel_rfl, by kernel_rfl⟩
theorem ext22Ok : ExtOk Try.prog ext22 := ⟨⟨call22_46, con46⟩, trivial⟩
/-! Function 22. -/
noncomputable def b22 : Code := bodyOf Try.f22
theorem hb22 : Try.f22.body = some b22 := by kernel_rfl
def sig22 : List AT := [AT.own (Ty.cons Ty.str (Ty.cons (Ty.int IntKind.i64) (Ty.cons (Ty.int IntKind.i64) (Ty.cons (Ty.int IntKind.i64) Ty.unit)))), AT.v (Ty.int IntKind.i64)]
def tys22 : List Ty := [Ty.int IntKind.i64]
def kds22 : List RK := []
def oks22 : List AT := owns sig22
def E22_2 (v5 : Int) (x1 : Int) (x0 : List (ByteArray × Int × Int × Int × Unit)) : Env := [(0, PV.a (Atom.osl 0 Option.none)), (1, PV.a (Atom.val (Value.int IntKind.i64 x1))), (5, PV.a (Atom.val (Value.int IntKind.i64 v5)))]
def L22_2 (v5 : Int) (x1 : Int) (x0 : List (ByteArray × Int × Int × Int × Unit)) : Heap := [Option.some (Arr.mk (Ty.cons Ty.str (Ty.cons (Ty.int IntKind.i64) (Ty.cons (Ty.int IntKind.i64) (Ty.cons (Ty.int IntKind.i64) Ty.unit)))) x0 Bool.false Option.none Option.none)]
mutual
def R22 : Nat → List (ByteArray × Int × Int × Int × Unit) → Int → List Dyn → List (Option Lst) → Prop
  | 0, _, _, _, _ => False
  | n + 1, x0, x1, ds, us => (R22_2 n (0) (x1) (x0) ds us)
def R22_2 : Nat → Int → Int → List (ByteArray × Int × Int × Int × Unit) → List Dyn → List (Option Lst) → Prop
  | 0, _, _, _, _, _ => False
  | n + 1, v5, x1, x0, ds, us => (if (Decidable.decide (v5 < (↑(List.length x0) : Int))) = true then ((0 ≤ v5) ∧ (v5 < (↑(List.length x0) : Int)) ∧ ((InR IntKind.i64 (x1 + 1)) ∧ ((0 ≤ v5) ∧ (v5 < (↑(List.length (List.set x0 (Int.toNat v5) (g46_0 x1, Prod.snd (List.getD x0 (Int.toNat v5) (ByteArray.empty, 0, 0, 0, ()))))) : Int)) ∧ ((InR IntKind.i64 (x1 + 1 + 1)) ∧ ((0 ≤ v5) ∧ (v5 < (↑(List.length (List.set (List.set x0 (Int.toNat v5) (g46_0 x1, Prod.snd (List.getD x0 (Int.toNat v5) (ByteArray.empty, 0, 0, 0, ())))) (Int.toNat v5) (Prod.fst (List.getD (List.set x0 (Int.toNat v5) (g46_0 x1, Prod.snd (List.getD x0 (Int.toNat v5) (ByteArray.empty, 0, 0, 0, ())))) (Int.toNat v5) (ByteArray.empty, 0, 0, 0, ())), x1 + 1, Prod.snd (Prod.snd (List.getD (List.set x0 (Int.toNat v5) (g46_0 x1, Prod.snd (List.getD x0 (Int.toNat v5) (ByteArray.empty, 0, 0, 0, ())))) (Int.toNat v5) (ByteArray.empty, 0, 0, 0, ())))))) : Int)) ∧ ((InR IntKind.i64 (x1 + 1 + 1 + 1)) ∧ ((0 ≤ v5) ∧ (v5 < (↑(List.length (List.set (List.set (List.set x0 (Int.toNat v5) (g46_0 x1, Prod.snd (List.getD x0 (Int.toNat v5) (ByteArray.empty, 0, 0, 0, ())))) (Int.toNat v5) (Prod.fst (List.getD (List.set x0 (Int.toNat v5) (g46_0 x1, Prod.snd (List.getD x0 (Int.toNat v5) (ByteArray.empty, 0, 0, 0, ())))) (Int.toNat v5) (ByteArray.empty, 0, 0, 0, ())), x1 + 1, Prod.snd (Prod.snd (List.getD (List.set x0 (Int.toNat v5) (g46_0 x1, Prod.snd (List.getD x0 (Int.toNat v5) (ByteArray.empty, 0, 0, 0, ())))) (Int.toNat v5) (ByteArray.empty, 0, 0, 0, ()))))) (Int.toNat v5) (Prod.fst (List.getD (List.set (List.set x0 (Int.toNat v5) (g46_0 x1, Prod.snd (List.getD x0 (Int.toNat v5) (ByteArray.empty, 0, 0, 0, ())))) (Int.toNat v5) (Prod.fst (List.getD (List.set x0 (Int.toNat v5) (g46_0 x1, Prod.snd (List.getD x0 (Int.toNat v5) (ByteArray.empty, 0, 0, 0, ())))) (Int.toNat v5) (ByteArray.empty, 0, 0, 0, ())), x1 + 1, Prod.snd (Prod.snd (List.getD (List.set x0 (Int.toNat v5) (g46_0 x1, Prod.snd (List.getD x0 (Int.toNat v5) (ByteArray.empty, 0, 0, 0, ())))) (Int.toNat v5) (ByteArray.empty, 0, 0, 0, ()))))) (Int.toNat v5) (ByteArray.empty, 0, 0, 0, ())), Prod.fst (Prod.snd (List.getD (List.set (List.set x0 (Int.toNat v5) (g46_0 x1, Prod.snd (List.getD x0 (Int.toNat v5) (ByteArray.empty, 0, 0, 0, ())))) (Int.toNat v5) (Prod.fst (List.getD (List.set x0 (Int.toNat v5) (g46_0 x1, Prod.snd (List.getD x0 (Int.toNat v5) (ByteArray.empty, 0, 0, 0, ())))) (Int.toNat v5) (ByteArray.empty, 0, 0, 0, ())), x1 + 1, Prod.snd (Prod.snd (List.getD (List.set x0 (Int.toNat v5) (g46_0 x1, Prod.snd (List.getD x0 (Int.toNat v5) (ByteArray.empty, 0, 0, 0, ())))) (Int.toNat v5) (ByteArray.empty, 0, 0, 0, ()))))) (Int.toNat v5) (ByteArray.empty, 0, 0, 0, ()))), x1 + 1 + 1, Prod.snd (Prod.snd (Prod.snd (List.getD (List.set (List.set x0 (Int.toNat v5) (g46_0 x1, Prod.snd (List.getD x0 (Int.toNat v5) (ByteArray.empty, 0, 0, 0, ())))) (Int.toNat v5) (Prod.fst (List.getD (List.set x0 (Int.toNat v5) (g46_0 x1, Prod.snd (List.getD x0 (Int.toNat v5) (ByteArray.empty, 0, 0, 0, ())))) (Int.toNat v5) (ByteArray.empty, 0, 0, 0, ())), x1 + 1, Prod.snd (Prod.snd (List.getD (List.set x0 (Int.toNat v5) (g46_0 x1, Prod.snd (List.getD x0 (Int.toNat v5) (ByteArray.empty, 0, 0, 0, ())))) (Int.toNat v5) (ByteArray.empty, 0, 0, 0, ()))))) (Int.toNat v5) (ByteArray.empty, 0, 0, 0, ()))))))) : Int)) ∧ ((InR IntKind.i64 (x1 + 1 + 1 + 1 + 1)) ∧ ((InR IntKind.i64 (v5 + 1)) ∧ (R22_2 n (v5 + 1) (x1 + 1 + 1 + 1 + 1) (List.set (List.set (List.set (List.set x0 (Int.toNat v5) (g46_0 x1, Prod.snd (List.getD x0 (Int.toNat v5) (ByteArray.empty, 0, 0, 0, ())))) (Int.toNat v5) (Prod.fst (List.getD (List.set x0 (Int.toNat v5) (g46_0 x1, Prod.snd (List.getD x0 (Int.toNat v5) (ByteArray.empty, 0, 0, 0, ())))) (Int.toNat v5) (ByteArray.empty, 0, 0, 0, ())), x1 + 1, Prod.snd (Prod.snd (List.getD (List.set x0 (Int.toNat v5) (g46_0 x1, Prod.snd (List.getD x0 (Int.toNat v5) (ByteArray.empty, 0, 0, 0, ())))) (Int.toNat v5) (ByteArray.empty, 0, 0, 0, ()))))) (Int.toNat v5) (Prod.fst (List.getD (List.set (List.set x0 (Int.toNat v5) (g46_0 x1, Prod.snd (List.getD x0 (Int.toNat v5) (ByteArray.empty, 0, 0, 0, ())))) (Int.toNat v5) (Prod.fst (List.getD (List.set x0 (Int.toNat v5) (g46_0 x1, Prod.snd (List.getD x0 (Int.toNat v5) (ByteArray.empty, 0, 0, 0, ())))) (Int.toNat v5) (ByteArray.empty, 0, 0, 0, ())), x1 + 1, Prod.snd (Prod.snd (List.getD (List.set x0 (Int.toNat v5) (g46_0 x1, Prod.snd (List.getD x0 (Int.toNat v5) (ByteArray.empty, 0, 0, 0, ())))) (Int.toNat v5) (ByteArray.empty, 0, 0, 0, ()))))) (Int.toNat v5) (ByteArray.empty, 0, 0, 0, ())), Prod.fst (Prod.snd (List.getD (List.set (List.set x0 (Int.toNat v5) (g46_0 x1, Prod.snd (List.getD x0 (Int.toNat v5) (ByteArray.empty, 0, 0, 0, ())))) (Int.toNat v5) (Prod.fst (List.getD (List.set x0 (Int.toNat v5) (g46_0 x1, Prod.snd (List.getD x0 (Int.toNat v5) (ByteArray.empty, 0, 0, 0, ())))) (Int.toNat v5) (ByteArray.empty, 0, 0, 0, ())), x1 + 1, Prod.snd (Prod.snd (List.getD (List.set x0 (Int.toNat v5) (g46_0 x1, Prod.snd (List.getD x0 (Int.toNat v5) (ByteArray.empty, 0, 0, 0, ())))) (Int.toNat v5) (ByteArray.empty, 0, 0, 0, ()))))) (Int.toNat v5) (ByteArray.empty, 0, 0, 0, ()))), x1 + 1 + 1, Prod.snd (Prod.snd (Prod.snd (List.getD (List.set (List.set x0 (Int.toNat v5) (g46_0 x1, Prod.snd (List.getD x0 (Int.toNat v5) (ByteArray.empty, 0, 0, 0, ())))) (Int.toNat v5) (Prod.fst (List.getD (List.set x0 (Int.toNat v5) (g46_0 x1, Prod.snd (List.getD x0 (Int.toNat v5) (ByteArray.empty, 0, 0, 0, ())))) (Int.toNat v5) (ByteArray.empty, 0, 0, 0, ())), x1 + 1, Prod.snd (Prod.snd (List.getD (List.set x0 (Int.toNat v5) (g46_0 x1, Prod.snd (List.getD x0 (Int.toNat v5) (ByteArray.empty, 0, 0, 0, ())))) (Int.toNat v5) (ByteArray.empty, 0, 0, 0, ()))))) (Int.toNat v5) (ByteArray.empty, 0, 0, 0, ())))))) (Int.toNat v5) (Prod.fst (List.getD (List.set (List.set (List.set x0 (Int.toNat v5) (g46_0 x1, Prod.snd (List.getD x0 (Int.toNat v5) (ByteArray.empty, 0, 0, 0, ())))) (Int.toNat v5) (Prod.fst (List.getD (List.set x0 (Int.toNat v5) (g46_0 x1, Prod.snd (List.getD x0 (Int.toNat v5) (ByteArray.empty, 0, 0, 0, ())))) (Int.toNat v5) (ByteArray.empty, 0, 0, 0, ())), x1 + 1, Prod.snd (Prod.snd (List.getD (List.set x0 (Int.toNat v5) (g46_0 x1, Prod.snd (List.getD x0 (Int.toNat v5) (ByteArray.empty, 0, 0, 0, ())))) (Int.toNat v5) (ByteArray.empty, 0, 0, 0, ()))))) (Int.toNat v5) (Prod.fst (List.getD (List.set (List.set x0 (Int.toNat v5) (g46_0 x1, Prod.snd (List.getD x0 (Int.toNat v5) (ByteArray.empty, 0, 0, 0, ())))) (Int.toNat v5) (Prod.fst (List.getD (List.set x0 (Int.toNat v5) (g46_0 x1, Prod.snd (List.getD x0 (Int.toNat v5) (ByteArray.empty, 0, 0, 0, ())))) (Int.toNat v5) (ByteArray.empty, 0, 0, 0, ())), x1 + 1, Prod.snd (Prod.snd (List.getD (List.set x0 (Int.toNat v5) (g46_0 x1, Prod.snd (List.getD x0 (Int.toNat v5) (ByteArray.empty, 0, 0, 0, ())))) (Int.toNat v5) (ByteArray.empty, 0, 0, 0, ()))))) (Int.toNat v5) (ByteArray.empty, 0, 0, 0, ())), Prod.fst (Prod.snd (List.getD (List.set (List.set x0 (Int.toNat v5) (g46_0 x1, Prod.snd (List.getD x0 (Int.toNat v5) (ByteArray.empty, 0, 0, 0, ())))) (Int.toNat v5) (Prod.fst (List.getD (List.set x0 (Int.toNat v5) (g46_0 x1, Prod.snd (List.getD x0 (Int.toNat v5) (ByteArray.empty, 0, 0, 0, ())))) (Int.toNat v5) (ByteArray.empty, 0, 0, 0, ())), x1 + 1, Prod.snd (Prod.snd (List.getD (List.set x0 (Int.toNat v5) (g46_0 x1, Prod.snd (List.getD x0 (Int.toNat v5) (ByteArray.empty, 0, 0, 0, ())))) (Int.toNat v5) (ByteArray.empty, 0, 0, 0, ()))))) (Int.toNat v5) (ByteArray.empty, 0, 0, 0, ()))), x1 + 1 + 1, Prod.snd (Prod.snd (Prod.snd (List.getD (List.set (List.set x0 (Int.toNat v5) (g46_0 x1, Prod.snd (List.getD x0 (Int.toNat v5) (ByteArray.empty, 0, 0, 0, ())))) (Int.toNat v5) (Prod.fst (List.getD (List.set x0 (Int.toNat v5) (g46_0 x1, Prod.snd (List.getD x0 (Int.toNat v5) (ByteArray.empty, 0, 0, 0, ())))) (Int.toNat v5) (ByteArray.empty, 0, 0, 0, ())), x1 + 1, Prod.snd (Prod.snd (List.getD (List.set x0 (Int.toNat v5) (g46_0 x1, Prod.snd (List.getD x0 (Int.toNat v5) (ByteArray.empty, 0, 0, 0, ())))) (Int.toNat v5) (ByteArray.empty, 0, 0, 0, ()))))) (Int.toNat v5) (ByteArray.empty, 0, 0, 0, ())))))) (Int.toNat v5) (ByteArray.empty, 0, 0, 0, ())), Prod.fst (Prod.snd (List.getD (List.set (List.set (List.set x0 (Int.toNat v5) (g46_0 x1, Prod.snd (List.getD x0 (Int.toNat v5) (ByteArray.empty, 0, 0, 0, ())))) (Int.toNat v5) (Prod.fst (List.getD (List.set x0 (Int.toNat v5) (g46_0 x1, Prod.snd (List.getD x0 (Int.toNat v5) (ByteArray.empty, 0, 0, 0, ())))) (Int.toNat v5) (ByteArray.empty, 0, 0, 0, ())), x1 + 1, Prod.snd (Prod.snd (List.getD (List.set x0 (Int.toNat v5) (g46_0 x1, Prod.snd (List.getD x0 (Int.toNat v5) (ByteArray.empty, 0, 0, 0, ())))) (Int.toNat v5) (ByteArray.empty, 0, 0, 0, ()))))) (Int.toNat v5) (Prod.fst (List.getD (List.set (List.set x0 (Int.toNat v5) (g46_0 x1, Prod.snd (List.getD x0 (Int.toNat v5) (ByteArray.empty, 0, 0, 0, ())))) (Int.toNat v5) (Prod.fst (List.getD (List.set x0 (Int.toNat v5) (g46_0 x1, Prod.snd (List.getD x0 (Int.toNat v5) (ByteArray.empty, 0, 0, 0, ())))) (Int.toNat v5) (ByteArray.empty, 0, 0, 0, ())), x1 + 1, Prod.snd (Prod.snd (List.getD (List.set x0 (Int.toNat v5) (g46_0 x1, Prod.snd (List.getD x0 (Int.toNat v5) (ByteArray.empty, 0, 0, 0, ())))) (Int.toNat v5) (ByteArray.empty, 0, 0, 0, ()))))) (Int.toNat v5) (ByteArray.empty, 0, 0, 0, ())), Prod.fst (Prod.snd (List.getD (List.set (List.set x0 (Int.toNat v5) (g46_0 x1, Prod.snd (List.getD x0 (Int.toNat v5) (ByteArray.empty, 0, 0, 0, ())))) (Int.toNat v5) (Prod.fst (List.getD (List.set x0 (Int.toNat v5) (g46_0 x1, Prod.snd (List.getD x0 (Int.toNat v5) (ByteArray.empty, 0, 0, 0, ())))) (Int.toNat v5) (ByteArray.empty, 0, 0, 0, ())), x1 + 1, Prod.snd (Prod.snd (List.getD (List.set x0 (Int.toNat v5) (g46_0 x1, Prod.snd (List.getD x0 (Int.toNat v5) (ByteArray.empty, 0, 0, 0, ())))) (Int.toNat v5) (ByteArray.empty, 0, 0, 0, ()))))) (Int.toNat v5) (ByteArray.empty, 0, 0, 0, ()))), x1 + 1 + 1, Prod.snd (Prod.snd (Prod.snd (List.getD (List.set (List.set x0 (Int.toNat v5) (g46_0 x1, Prod.snd (List.getD x0 (Int.toNat v5) (ByteArray.empty, 0, 0, 0, ())))) (Int.toNat v5) (Prod.fst (List.getD (List.set x0 (Int.toNat v5) (g46_0 x1, Prod.snd (List.getD x0 (Int.toNat v5) (ByteArray.empty, 0, 0, 0, ())))) (Int.toNat v5) (ByteArray.empty, 0, 0, 0, ())), x1 + 1, Prod.snd (Prod.snd (List.getD (List.set x0 (Int.toNat v5) (g46_0 x1, Prod.snd (List.getD x0 (Int.toNat v5) (ByteArray.empty, 0, 0, 0, ())))) (Int.toNat v5) (ByteArray.empty, 0, 0, 0, ()))))) (Int.toNat v5) (ByteArray.empty, 0, 0, 0, ())))))) (Int.toNat v5) (ByteArray.empty, 0, 0, 0, ()))), Prod.fst (Prod.snd (Prod.snd (List.getD (List.set (List.set (List.set x0 (Int.toNat v5) (g46_0 x1, Prod.snd (List.getD x0 (Int.toNat v5) (ByteArray.empty, 0, 0, 0, ())))) (Int.toNat v5) (Prod.fst (List.getD (List.set x0 (Int.toNat v5) (g46_0 x1, Prod.snd (List.getD x0 (Int.toNat v5) (ByteArray.empty, 0, 0, 0, ())))) (Int.toNat v5) (ByteArray.empty, 0, 0, 0, ())), x1 + 1, Prod.snd (Prod.snd (List.getD (List.set x0 (Int.toNat v5) (g46_0 x1, Prod.snd (List.getD x0 (Int.toNat v5) (ByteArray.empty, 0, 0, 0, ())))) (Int.toNat v5) (ByteArray.empty, 0, 0, 0, ()))))) (Int.toNat v5) (Prod.fst (List.getD (List.set (List.set x0 (Int.toNat v5) (g46_0 x1, Prod.snd (List.getD x0 (Int.toNat v5) (ByteArray.empty, 0, 0, 0, ())))) (Int.toNat v5) (Prod.fst (List.getD (List.set x0 (Int.toNat v5) (g46_0 x1, Prod.snd (List.getD x0 (Int.toNat v5) (ByteArray.empty, 0, 0, 0, ())))) (Int.toNat v5) (ByteArray.empty, 0, 0, 0, ())), x1 + 1, Prod.snd (Prod.snd (List.getD (List.set x0 (Int.toNat v5) (g46_0 x1, Prod.snd (List.getD x0 (Int.toNat v5) (ByteArray.empty, 0, 0, 0, ())))) (Int.toNat v5) (ByteArray.empty, 0, 0, 0, ()))))) (Int.toNat v5) (ByteArray.empty, 0, 0, 0, ())), Prod.fst (Prod.snd (List.getD (List.set (List.set x0 (Int.toNat v5) (g46_0 x1, Prod.snd (List.getD x0 (Int.toNat v5) (ByteArray.empty, 0, 0, 0, ())))) (Int.toNat v5) (Prod.fst (List.getD (List.set x0 (Int.toNat v5) (g46_0 x1, Prod.snd (List.getD x0 (Int.toNat v5) (ByteArray.empty, 0, 0, 0, ())))) (Int.toNat v5) (ByteArray.empty, 0, 0, 0, ())), x1 + 1, Prod.snd (Prod.snd (List.getD (List.set x0 (Int.toNat v5) (g46_0 x1, Prod.snd (List.getD x0 (Int.toNat v5) (ByteArray.empty, 0, 0, 0, ())))) (Int.toNat v5) (ByteArray.empty, 0, 0, 0, ()))))) (Int.toNat v5) (ByteArray.empty, 0, 0, 0, ()))), x1 + 1 + 1, Prod.snd (Prod.snd (Prod.snd (List.getD (List.set (List.set x0 (Int.toNat v5) (g46_0 x1, Prod.snd (List.getD x0 (Int.toNat v5) (ByteArray.empty, 0, 0, 0, ())))) (Int.toNat v5) (Prod.fst (List.getD (List.set x0 (Int.toNat v5) (g46_0 x1, Prod.snd (List.getD x0 (Int.toNat v5) (ByteArray.empty, 0, 0, 0, ())))) (Int.toNat v5) (ByteArray.empty, 0, 0, 0, ())), x1 + 1, Prod.snd (Prod.snd (List.getD (List.set x0 (Int.toNat v5) (g46_0 x1, Prod.snd (List.getD x0 (Int.toNat v5) (ByteArray.empty, 0, 0, 0, ())))) (Int.toNat v5) (ByteArray.empty, 0, 0, 0, ()))))) (Int.toNat v5) (ByteArray.empty, 0, 0, 0, ())))))) (Int.toNat v5) (ByteArray.empty, 0, 0, 0, ())))), x1 + 1 + 1 + 1, Prod.snd (Prod.snd (Prod.snd (Prod.snd (List.getD (List.set (List.set (List.set x0 (Int.toNat v5) (g46_0 x1, Prod.snd (List.getD x0 (Int.toNat v5) (ByteArray.empty, 0, 0, 0, ())))) (Int.toNat v5) (Prod.fst (List.getD (List.set x0 (Int.toNat v5) (g46_0 x1, Prod.snd (List.getD x0 (Int.toNat v5) (ByteArray.empty, 0, 0, 0, ())))) (Int.toNat v5) (ByteArray.empty, 0, 0, 0, ())), x1 + 1, Prod.snd (Prod.snd (List.getD (List.set x0 (Int.toNat v5) (g46_0 x1, Prod.snd (List.getD x0 (Int.toNat v5) (ByteArray.empty, 0, 0, 0, ())))) (Int.toNat v5) (ByteArray.empty, 0, 0, 0, ()))))) (Int.toNat v5) (Prod.fst (List.getD (List.set (List.set x0 (Int.toNat v5) (g46_0 x1, Prod.snd (List.getD x0 (Int.toNat v5) (ByteArray.empty, 0, 0, 0, ())))) (Int.toNat v5) (Prod.fst (List.getD (List.set x0 (Int.toNat v5) (g46_0 x1, Prod.snd (List.getD x0 (Int.toNat v5) (ByteArray.empty, 0, 0, 0, ())))) (Int.toNat v5) (ByteArray.empty, 0, 0, 0, ())), x1 + 1, Prod.snd (Prod.snd (List.getD (List.set x0 (Int.toNat v5) (g46_0 x1, Prod.snd (List.getD x0 (Int.toNat v5) (ByteArray.empty, 0, 0, 0, ())))) (Int.toNat v5) (ByteArray.empty, 0, 0, 0, ()))))) (Int.toNat v5) (ByteArray.empty, 0, 0, 0, ())), Prod.fst (Prod.snd (List.getD (List.set (List.set x0 (Int.toNat v5) (g46_0 x1, Prod.snd (List.getD x0 (Int.toNat v5) (ByteArray.empty, 0, 0, 0, ())))) (Int.toNat v5) (Prod.fst (List.getD (List.set x0 (Int.toNat v5) (g46_0 x1, Prod.snd (List.getD x0 (Int.toNat v5) (ByteArray.empty, 0, 0, 0, ())))) (Int.toNat v5) (ByteArray.empty, 0, 0, 0, ())), x1 + 1, Prod.snd (Prod.snd (List.getD (List.set x0 (Int.toNat v5) (g46_0 x1, Prod.snd (List.getD x0 (Int.toNat v5) (ByteArray.empty, 0, 0, 0, ())))) (Int.toNat v5) (ByteArray.empty, 0, 0, 0, ()))))) (Int.toNat v5) (ByteArray.empty, 0, 0, 0, ()))), x1 + 1 + 1, Prod.snd (Prod.snd (Prod.snd (List.getD (List.set (List.set x0 (Int.toNat v5) (g46_0 x1, Prod.snd (List.getD x0 (Int.toNat v5) (ByteArray.empty, 0, 0, 0, ())))) (Int.toNat v5) (Prod.fst (List.getD (List.set x0 (Int.toNat v5) (g46_0 x1, Prod.snd (List.getD x0 (Int.toNat v5) (ByteArray.empty, 0, 0, 0, ())))) (Int.toNat v5) (ByteArray.empty, 0, 0, 0, ())), x1 + 1, Prod.snd (Prod.snd (List.getD (List.set x0 (Int.toNat v5) (g46_0 x1, Prod.snd (List.getD x0 (Int.toNat v5) (ByteArray.empty, 0, 0, 0, ())))) (Int.toNat v5) (ByteArray.empty, 0, 0, 0, ()))))) (Int.toNat v5) (ByteArray.empty, 0, 0, 0, ())))))) (Int.toNat v5) (ByteArray.empty, 0, 0, 0, ()))))))) ds us)))))))))) else (ds = [Dyn.mk (Ty.int IntKind.i64) x1] ∧ us = [Option.some (Lst.mk (Ty.cons Ty.str (Ty.cons (Ty.int IntKind.i64) (Ty.cons (Ty.int IntKind.i64) (Ty.cons (Ty.int IntKind.i64) Ty.unit)))) x0)]))
end
theorem p22_0 (x0 : List (ByteArray × Int × Int × Int × Unit)) (x1 : Int) : Am.runN tab ext22 false 42 [] 2000 [0] [] [0, 1, 5] [0] [] [.code b22] (entE 0 0 sig22 (x0, x1, ())) (entL sig22 (x0, x1, ())) = some (cutAt b22 2, E22_2 (0) (x1) (x0), L22_2 (0) (x1) (x0), []) := by kernel_rfl
theorem p22_1 (v5 : Int) (x1 : Int) (x0 : List (ByteArray × Int × Int × Int × Unit)) : Am.runN tab ext22 false 42 [] 2000 [0] [] [0, 1, 5] [0] [true] (cutAt b22 2) (E22_2 v5 x1 x0) (L22_2 v5 x1 x0) = some (cutAt b22 2, E22_2 (v5 + 1) (x1 + 1 + 1 + 1 + 1) (List.set (List.set (List.set (List.set x0 (Int.toNat v5) (g46_0 x1, Prod.snd (List.getD x0 (Int.toNat v5) (ByteArray.empty, 0, 0, 0, ())))) (Int.toNat v5) (Prod.fst (List.getD (List.set x0 (Int.toNat v5) (g46_0 x1, Prod.snd (List.getD x0 (Int.toNat v5) (ByteArray.empty, 0, 0, 0, ())))) (Int.toNat v5) (ByteArray.empty, 0, 0, 0, ())), x1 + 1, Prod.snd (Prod.snd (List.getD (List.set x0 (Int.toNat v5) (g46_0 x1, Prod.snd (List.getD x0 (Int.toNat v5) (ByteArray.empty, 0, 0, 0, ())))) (Int.toNat v5) (ByteArray.empty, 0, 0, 0, ()))))) (Int.toNat v5) (Prod.fst (List.getD (List.set (List.set x0 (Int.toNat v5) (g46_0 x1, Prod.snd (List.getD x0 (Int.toNat v5) (ByteArray.empty, 0, 0, 0, ())))) (Int.toNat v5) (Prod.fst (List.getD (List.set x0 (Int.toNat v5) (g46_0 x1, Prod.snd (List.getD x0 (Int.toNat v5) (ByteArray.empty, 0, 0, 0, ())))) (Int.toNat v5) (ByteArray.empty, 0, 0, 0, ())), x1 + 1, Prod.snd (Prod.snd (List.getD (List.set x0 (Int.toNat v5) (g46_0 x1, Prod.snd (List.getD x0 (Int.toNat v5) (ByteArray.empty, 0, 0, 0, ())))) (Int.toNat v5) (ByteArray.empty, 0, 0, 0, ()))))) (Int.toNat v5) (ByteArray.empty, 0, 0, 0, ())), Prod.fst (Prod.snd (List.getD (List.set (List.set x0 (Int.toNat v5) (g46_0 x1, Prod.snd (List.getD x0 (Int.toNat v5) (ByteArray.empty, 0, 0, 0, ())))) (Int.toNat v5) (Prod.fst (List.getD (List.set x0 (Int.toNat v5) (g46_0 x1, Prod.snd (List.getD x0 (Int.toNat v5) (ByteArray.empty, 0, 0, 0, ())))) (Int.toNat v5) (ByteArray.empty, 0, 0, 0, ())), x1 + 1, Prod.snd (Prod.snd (List.getD (List.set x0 (Int.toNat v5) (g46_0 x1, Prod.snd (List.getD x0 (Int.toNat v5) (ByteArray.empty, 0, 0, 0, ())))) (Int.toNat v5) (ByteArray.empty, 0, 0, 0, ()))))) (Int.toNat v5) (ByteArray.empty, 0, 0, 0, ()))), x1 + 1 + 1, Prod.snd (Prod.snd (Prod.snd (List.getD (List.set (List.set x0 (Int.toNat v5) (g46_0 x1, Prod.snd (List.getD x0 (Int.toNat v5) (ByteArray.empty, 0, 0, 0, ())))) (Int.toNat v5) (Prod.fst (List.getD (List.set x0 (Int.toNat v5) (g46_0 x1, Prod.snd (List.getD x0 (Int.toNat v5) (ByteArray.empty, 0, 0, 0, ())))) (Int.toNat v5) (ByteArray.empty, 0, 0, 0, ())), x1 + 1, Prod.snd (Prod.snd (List.getD (List.set x0 (Int.toNat v5) (g46_0 x1, Prod.snd (List.getD x0 (Int.toNat v5) (ByteArray.empty, 0, 0, 0, ())))) (Int.toNat v5) (ByteArray.empty, 0, 0, 0, ()))))) (Int.toNat v5) (ByteArray.empty, 0, 0, 0, ())))))) (Int.toNat v5) (Prod.fst (List.getD (List.set (List.set (List.set x0 (Int.toNat v5) (g46_0 x1, Prod.snd (List.getD x0 (Int.toNat v5) (ByteArray.empty, 0, 0, 0, ())))) (Int.toNat v5) (Prod.fst (List.getD (List.set x0 (Int.toNat v5) (g46_0 x1, Prod.snd (List.getD x0 (Int.toNat v5) (ByteArray.empty, 0, 0, 0, ())))) (Int.toNat v5) (ByteArray.empty, 0, 0, 0, ())), x1 + 1, Prod.snd (Prod.snd (List.getD (List.set x0 (Int.toNat v5) (g46_0 x1, Prod.snd (List.getD x0 (Int.toNat v5) (ByteArray.empty, 0, 0, 0, ())))) (Int.toNat v5) (ByteArray.empty, 0, 0, 0, ()))))) (Int.toNat v5) (Prod.fst (List.getD (List.set (List.set x0 (Int.toNat v5) (g46_0 x1, Prod.snd (List.getD x0 (Int.toNat v5) (ByteArray.empty, 0, 0, 0, ())))) (Int.toNat v5) (Prod.fst (List.getD (List.set x0 (Int.toNat v5) (g46_0 x1, Prod.snd (List.getD x0 (Int.toNat v5) (ByteArray.empty, 0, 0, 0, ())))) (Int.toNat v5) (ByteArray.empty, 0, 0, 0, ())), x1 + 1, Prod.snd (Prod.snd (List.getD (List.set x0 (Int.toNat v5) (g46_0 x1, Prod.snd (List.getD x0 (Int.toNat v5) (ByteArray.empty, 0, 0, 0, ())))) (Int.toNat v5) (ByteArray.empty, 0, 0, 0, ()))))) (Int.toNat v5) (ByteArray.empty, 0, 0, 0, ())), Prod.fst (Prod.snd (List.getD (List.set (List.set x0 (Int.toNat v5) (g46_0 x1, Prod.snd (List.getD x0 (Int.toNat v5) (ByteArray.empty, 0, 0, 0, ())))) (Int.toNat v5) (Prod.fst (List.getD (List.set x0 (Int.toNat v5) (g46_0 x1, Prod.snd (List.getD x0 (Int.toNat v5) (ByteArray.empty, 0, 0, 0, ())))) (Int.toNat v5) (ByteArray.empty, 0, 0, 0, ())), x1 + 1, Prod.snd (Prod.snd (List.getD (List.set x0 (Int.toNat v5) (g46_0 x1, Prod.snd (List.getD x0 (Int.toNat v5) (ByteArray.empty, 0, 0, 0, ())))) (Int.toNat v5) (ByteArray.empty, 0, 0, 0, ()))))) (Int.toNat v5) (ByteArray.empty, 0, 0, 0, ()))), x1 + 1 + 1, Prod.snd (Prod.snd (Prod.snd (List.getD (List.set (List.set x0 (Int.toNat v5) (g46_0 x1, Prod.snd (List.getD x0 (Int.toNat v5) (ByteArray.empty, 0, 0, 0, ())))) (Int.toNat v5) (Prod.fst (List.getD (List.set x0 (Int.toNat v5) (g46_0 x1, Prod.snd (List.getD x0 (Int.toNat v5) (ByteArray.empty, 0, 0, 0, ())))) (Int.toNat v5) (ByteArray.empty, 0, 0, 0, ())), x1 + 1, Prod.snd (Prod.snd (List.getD (List.set x0 (Int.toNat v5) (g46_0 x1, Prod.snd (List.getD x0 (Int.toNat v5) (ByteArray.empty, 0, 0, 0, ())))) (Int.toNat v5) (ByteArray.empty, 0, 0, 0, ()))))) (Int.toNat v5) (ByteArray.empty, 0, 0, 0, ())))))) (Int.toNat v5) (ByteArray.empty, 0, 0, 0, ())), Prod.fst (Prod.snd (List.getD (List.set (List.set (List.set x0 (Int.toNat v5) (g46_0 x1, Prod.snd (List.getD x0 (Int.toNat v5) (ByteArray.empty, 0, 0, 0, ())))) (Int.toNat v5) (Prod.fst (List.getD (List.set x0 (Int.toNat v5) (g46_0 x1, Prod.snd (List.getD x0 (Int.toNat v5) (ByteArray.empty, 0, 0, 0, ())))) (Int.toNat v5) (ByteArray.empty, 0, 0, 0, ())), x1 + 1, Prod.snd (Prod.snd (List.getD (List.set x0 (Int.toNat v5) (g46_0 x1, Prod.snd (List.getD x0 (Int.toNat v5) (ByteArray.empty, 0, 0, 0, ())))) (Int.toNat v5) (ByteArray.empty, 0, 0, 0, ()))))) (Int.toNat v5) (Prod.fst (List.getD (List.set (List.set x0 (Int.toNat v5) (g46_0 x1, Prod.snd (List.getD x0 (Int.toNat v5) (ByteArray.empty, 0, 0, 0, ())))) (Int.toNat v5) (Prod.fst (List.getD (List.set x0 (Int.toNat v5) (g46_0 x1, Prod.snd (List.getD x0 (Int.toNat v5) (ByteArray.empty, 0, 0, 0, ())))) (Int.toNat v5) (ByteArray.empty, 0, 0, 0, ())), x1 + 1, Prod.snd (Prod.snd (List.getD (List.set x0 (Int.toNat v5) (g46_0 x1, Prod.snd (List.getD x0 (Int.toNat v5) (ByteArray.empty, 0, 0, 0, ())))) (Int.toNat v5) (ByteArray.empty, 0, 0, 0, ()))))) (Int.toNat v5) (ByteArray.empty, 0, 0, 0, ())), Prod.fst (Prod.snd (List.getD (List.set (List.set x0 (Int.toNat v5) (g46_0 x1, Prod.snd (List.getD x0 (Int.toNat v5) (ByteArray.empty, 0, 0, 0, ())))) (Int.toNat v5) (Prod.fst (List.getD (List.set x0 (Int.toNat v5) (g46_0 x1, Prod.snd (List.getD x0 (Int.toNat v5) (ByteArray.empty, 0, 0, 0, ())))) (Int.toNat v5) (ByteArray.empty, 0, 0, 0, ())), x1 + 1, Prod.snd (Prod.snd (List.getD (List.set x0 (Int.toNat v5) (g46_0 x1, Prod.snd (List.getD x0 (Int.toNat v5) (ByteArray.empty, 0, 0, 0, ())))) (Int.toNat v5) (ByteArray.empty, 0, 0, 0, ()))))) (Int.toNat v5) (ByteArray.empty, 0, 0, 0, ()))), x1 + 1 + 1, Prod.snd (Prod.snd (Prod.snd (List.getD (List.set (List.set x0 (Int.toNat v5) (g46_0 x1, Prod.snd (List.getD x0 (Int.toNat v5) (ByteArray.empty, 0, 0, 0, ())))) (Int.toNat v5) (Prod.fst (List.getD (List.set x0 (Int.toNat v5) (g46_0 x1, Prod.snd (List.getD x0 (Int.toNat v5) (ByteArray.empty, 0, 0, 0, ())))) (Int.toNat v5) (ByteArray.empty, 0, 0, 0, ())), x1 + 1, Prod.snd (Prod.snd (List.getD (List.set x0 (Int.toNat v5) (g46_0 x1, Prod.snd (List.getD x0 (Int.toNat v5) (ByteArray.empty, 0, 0, 0, ())))) (Int.toNat v5) (ByteArray.empty, 0, 0, 0, ()))))) (Int.toNat v5) (ByteArray.empty, 0, 0, 0, ())))))) (Int.toNat v5) (ByteArray.empty, 0, 0, 0, ()))), Prod.fst (Prod.snd (Prod.snd (List.getD (List.set (List.set (List.set x0 (Int.toNat v5) (g46_0 x1, Prod.snd (List.getD x0 (Int.toNat v5) (ByteArray.empty, 0, 0, 0, ())))) (Int.toNat v5) (Prod.fst (List.getD (List.set x0 (Int.toNat v5) (g46_0 x1, Prod.snd (List.getD x0 (Int.toNat v5) (ByteArray.empty, 0, 0, 0, ())))) (Int.toNat v5) (ByteArray.empty, 0, 0, 0, ())), x1 + 1, Prod.snd (Prod.snd (List.getD (List.set x0 (Int.toNat v5) (g46_0 x1, Prod.snd (List.getD x0 (Int.toNat v5) (ByteArray.empty, 0, 0, 0, ())))) (Int.toNat v5) (ByteArray.empty, 0, 0, 0, ()))))) (Int.toNat v5) (Prod.fst (List.getD (List.set (List.set x0 (Int.toNat v5) (g46_0 x1, Prod.snd (List.getD x0 (Int.toNat v5) (ByteArray.empty, 0, 0, 0, ())))) (Int.toNat v5) (Prod.fst (List.getD (List.set x0 (Int.toNat v5) (g46_0 x1, Prod.snd (List.getD x0 (Int.toNat v5) (ByteArray.empty, 0, 0, 0, ())))) (Int.toNat v5) (ByteArray.empty, 0, 0, 0, ())), x1 + 1, Prod.snd (Prod.snd (List.getD (List.set x0 (Int.toNat v5) (g46_0 x1, Prod.snd (List.getD x0 (Int.toNat v5) (ByteArray.empty, 0, 0, 0, ())))) (Int.toNat v5) (ByteArray.empty, 0, 0, 0, ()))))) (Int.toNat v5) (ByteArray.empty, 0, 0, 0, ())), Prod.fst (Prod.snd (List.getD (List.set (List.set x0 (Int.toNat v5) (g46_0 x1, Prod.snd (List.getD x0 (Int.toNat v5) (ByteArray.empty, 0, 0, 0, ())))) (Int.toNat v5) (Prod.fst (List.getD (List.set x0 (Int.toNat v5) (g46_0 x1, Prod.snd (List.getD x0 (Int.toNat v5) (ByteArray.empty, 0, 0, 0, ())))) (Int.toNat v5) (ByteArray.empty, 0, 0, 0, ())), x1 + 1, Prod.snd (Prod.snd (List.getD (List.set x0 (Int.toNat v5) (g46_0 x1, Prod.snd (List.getD x0 (Int.toNat v5) (ByteArray.empty, 0, 0, 0, ())))) (Int.toNat v5) (ByteArray.empty, 0, 0, 0, ()))))) (Int.toNat v5) (ByteArray.empty, 0, 0, 0, ()))), x1 + 1 + 1, Prod.snd (Prod.snd (Prod.snd (List.getD (List.set (List.set x0 (Int.toNat v5) (g46_0 x1, Prod.snd (List.getD x0 (Int.toNat v5) (ByteArray.empty, 0, 0, 0, ())))) (Int.toNat v5) (Prod.fst (List.getD (List.set x0 (Int.toNat v5) (g46_0 x1, Prod.snd (List.getD x0 (Int.toNat v5) (ByteArray.empty, 0, 0, 0, ())))) (Int.toNat v5) (ByteArray.empty, 0, 0, 0, ())), x1 + 1, Prod.snd (Prod.snd (List.getD (List.set x0 (Int.toNat v5) (g46_0 x1, Prod.snd (List.getD x0 (Int.toNat v5) (ByteArray.empty, 0, 0, 0, ())))) (Int.toNat v5) (ByteArray.empty, 0, 0, 0, ()))))) (Int.toNat v5) (ByteArray.empty, 0, 0, 0, ())))))) (Int.toNat v5) (ByteArray.empty, 0, 0, 0, ())))), x1 + 1 + 1 + 1, Prod.snd (Prod.snd (Prod.snd (Prod.snd (List.getD (List.set (List.set (List.set x0 (Int.toNat v5) (g46_0 x1, Prod.snd (List.getD x0 (Int.toNat v5) (ByteArray.empty, 0, 0, 0, ())))) (Int.toNat v5) (Prod.fst (List.getD (List.set x0 (Int.toNat v5) (g46_0 x1, Prod.snd (List.getD x0 (Int.toNat v5) (ByteArray.empty, 0, 0, 0, ())))) (Int.toNat v5) (ByteArray.empty, 0, 0, 0, ())), x1 + 1, Prod.snd (Prod.snd (List.getD (List.set x0 (Int.toNat v5) (g46_0 x1, Prod.snd (List.getD x0 (Int.toNat v5) (ByteArray.empty, 0, 0, 0, ())))) (Int.toNat v5) (ByteArray.empty, 0, 0, 0, ()))))) (Int.toNat v5) (Prod.fst (List.getD (List.set (List.set x0 (Int.toNat v5) (g46_0 x1, Prod.snd (List.getD x0 (Int.toNat v5) (ByteArray.empty, 0, 0, 0, ())))) (Int.toNat v5) (Prod.fst (List.getD (List.set x0 (Int.toNat v5) (g46_0 x1, Prod.snd (List.getD x0 (Int.toNat v5) (ByteArray.empty, 0, 0, 0, ())))) (Int.toNat v5) (ByteArray.empty, 0, 0, 0, ())), x1 + 1, Prod.snd (Prod.snd (List.getD (List.set x0 (Int.toNat v5) (g46_0 x1, Prod.snd (List.getD x0 (Int.toNat v5) (ByteArray.empty, 0, 0, 0, ())))) (Int.toNat v5) (ByteArray.empty, 0, 0, 0, ()))))) (Int.toNat v5) (ByteArray.empty, 0, 0, 0, ())), Prod.fst (Prod.snd (List.getD (List.set (List.set x0 (Int.toNat v5) (g46_0 x1, Prod.snd (List.getD x0 (Int.toNat v5) (ByteArray.empty, 0, 0, 0, ())))) (Int.toNat v5) (Prod.fst (List.getD (List.set x0 (Int.toNat v5) (g46_0 x1, Prod.snd (List.getD x0 (Int.toNat v5) (ByteArray.empty, 0, 0, 0, ())))) (Int.toNat v5) (ByteArray.empty, 0, 0, 0, ())), x1 + 1, Prod.snd (Prod.snd (List.getD (List.set x0 (Int.toNat v5) (g46_0 x1, Prod.snd (List.getD x0 (Int.toNat v5) (ByteArray.empty, 0, 0, 0, ())))) (Int.toNat v5) (ByteArray.empty, 0, 0, 0, ()))))) (Int.toNat v5) (ByteArray.empty, 0, 0, 0, ()))), x1 + 1 + 1, Prod.snd (Prod.snd (Prod.snd (List.getD (List.set (List.set x0 (Int.toNat v5) (g46_0 x1, Prod.snd (List.getD x0 (Int.toNat v5) (ByteArray.empty, 0, 0, 0, ())))) (Int.toNat v5) (Prod.fst (List.getD (List.set x0 (Int.toNat v5) (g46_0 x1, Prod.snd (List.getD x0 (Int.toNat v5) (ByteArray.empty, 0, 0, 0, ())))) (Int.toNat v5) (ByteArray.empty, 0, 0, 0, ())), x1 + 1, Prod.snd (Prod.snd (List.getD (List.set x0 (Int.toNat v5) (g46_0 x1, Prod.snd (List.getD x0 (Int.toNat v5) (ByteArray.empty, 0, 0, 0, ())))) (Int.toNat v5) (ByteArray.empty, 0, 0, 0, ()))))) (Int.toNat v5) (ByteArray.empty, 0, 0, 0, ())))))) (Int.toNat v5) (ByteArray.empty, 0, 0, 0, ()))))))), L22_2 (v5 + 1) (x1 + 1 + 1 + 1 + 1) (List.set (List.set (List.set (List.set x0 (Int.toNat v5) (g46_0 x1, Prod.snd (List.getD x0 (Int.toNat v5) (ByteArray.empty, 0, 0, 0, ())))) (Int.toNat v5) (Prod.fst (List.getD (List.set x0 (Int.toNat v5) (g46_0 x1, Prod.snd (List.getD x0 (Int.toNat v5) (ByteArray.empty, 0, 0, 0, ())))) (Int.toNat v5) (ByteArray.empty, 0, 0, 0, ())), x1 + 1, Prod.snd (Prod.snd (List.getD (List.set x0 (Int.toNat v5) (g46_0 x1, Prod.snd (List.getD x0 (Int.toNat v5) (ByteArray.empty, 0, 0, 0, ())))) (Int.toNat v5) (ByteArray.empty, 0, 0, 0, ()))))) (Int.toNat v5) (Prod.fst (List.getD (List.set (List.set x0 (Int.toNat v5) (g46_0 x1, Prod.snd (List.getD x0 (Int.toNat v5) (ByteArray.empty, 0, 0, 0, ())))) (Int.toNat v5) (Prod.fst (List.getD (List.set x0 (Int.toNat v5) (g46_0 x1, Prod.snd (List.getD x0 (Int.toNat v5) (ByteArray.empty, 0, 0, 0, ())))) (Int.toNat v5) (ByteArray.empty, 0, 0, 0, ())), x1 + 1, Prod.snd (Prod.snd (List.getD (List.set x0 (Int.toNat v5) (g46_0 x1, Prod.snd (List.getD x0 (Int.toNat v5) (ByteArray.empty, 0, 0, 0, ())))) (Int.toNat v5) (ByteArray.empty, 0, 0, 0, ()))))) (Int.toNat v5) (ByteArray.empty, 0, 0, 0, ())), Prod.fst (Prod.snd (List.getD (List.set (List.set x0 (Int.toNat v5) (g46_0 x1, Prod.snd (List.getD x0 (Int.toNat v5) (ByteArray.empty, 0, 0, 0, ())))) (Int.toNat v5) (Prod.fst (List.getD (List.set x0 (Int.toNat v5) (g46_0 x1, Prod.snd (List.getD x0 (Int.toNat v5) (ByteArray.empty, 0, 0, 0, ())))) (Int.toNat v5) (ByteArray.empty, 0, 0, 0, ())), x1 + 1, Prod.snd (Prod.snd (List.getD (List.set x0 (Int.toNat v5) (g46_0 x1, Prod.snd (List.getD x0 (Int.toNat v5) (ByteArray.empty, 0, 0, 0, ())))) (Int.toNat v5) (ByteArray.empty, 0, 0, 0, ()))))) (Int.toNat v5) (ByteArray.empty, 0, 0, 0, ()))), x1 + 1 + 1, Prod.snd (Prod.snd (Prod.snd (List.getD (List.set (List.set x0 (Int.toNat v5) (g46_0 x1, Prod.snd (List.getD x0 (Int.toNat v5) (ByteArray.empty, 0, 0, 0, ())))) (Int.toNat v5) (Prod.fst (List.getD (List.set x0 (Int.toNat v5) (g46_0 x1, Prod.snd (List.getD x0 (Int.toNat v5) (ByteArray.empty, 0, 0, 0, ())))) (Int.toNat v5) (ByteArray.empty, 0, 0, 0, ())), x1 + 1, Prod.snd (Prod.snd (List.getD (List.set x0 (Int.toNat v5) (g46_0 x1, Prod.snd (List.getD x0 (Int.toNat v5) (ByteArray.empty, 0, 0, 0, ())))) (Int.toNat v5) (ByteArray.empty, 0, 0, 0, ()))))) (Int.toNat v5) (ByteArray.empty, 0, 0, 0, ())))))) (Int.toNat v5) (Prod.fst (List.getD (List.set (List.set (List.set x0 (Int.toNat v5) (g46_0 x1, Prod.snd (List.getD x0 (Int.toNat v5) (ByteArray.empty, 0, 0, 0, ())))) (Int.toNat v5) (Prod.fst (List.getD (List.set x0 (Int.toNat v5) (g46_0 x1, Prod.snd (List.getD x0 (Int.toNat v5) (ByteArray.empty, 0, 0, 0, ())))) (Int.toNat v5) (ByteArray.empty, 0, 0, 0, ())), x1 + 1, Prod.snd (Prod.snd (List.getD (List.set x0 (Int.toNat v5) (g46_0 x1, Prod.snd (List.getD x0 (Int.toNat v5) (ByteArray.empty, 0, 0, 0, ())))) (Int.toNat v5) (ByteArray.empty, 0, 0, 0, ()))))) (Int.toNat v5) (Prod.fst (List.getD (List.set (List.set x0 (Int.toNat v5) (g46_0 x1, Prod.snd (List.getD x0 (Int.toNat v5) (ByteArray.empty, 0, 0, 0, ())))) (Int.toNat v5) (Prod.fst (List.getD (List.set x0 (Int.toNat v5) (g46_0 x1, Prod.snd (List.getD x0 (Int.toNat v5) (ByteArray.empty, 0, 0, 0, ())))) (Int.toNat v5) (ByteArray.empty, 0, 0, 0, ())), x1 + 1, Prod.snd (Prod.snd (List.getD (List.set x0 (Int.toNat v5) (g46_0 x1, Prod.snd (List.getD x0 (Int.toNat v5) (ByteArray.empty, 0, 0, 0, ())))) (Int.toNat v5) (ByteArray.empty, 0, 0, 0, ()))))) (Int.toNat v5) (ByteArray.empty, 0, 0, 0, ())), Prod.fst (Prod.snd (List.getD (List.set (List.set x0 (Int.toNat v5) (g46_0 x1, Prod.snd (List.getD x0 (Int.toNat v5) (ByteArray.empty, 0, 0, 0, ())))) (Int.toNat v5) (Prod.fst (List.getD (List.set x0 (Int.toNat v5) (g46_0 x1, Prod.snd (List.getD x0 (Int.toNat v5) (ByteArray.empty, 0, 0, 0, ())))) (Int.toNat v5) (ByteArray.empty, 0, 0, 0, ())), x1 + 1, Prod.snd (Prod.snd (List.getD (List.set x0 (Int.toNat v5) (g46_0 x1, Prod.snd (List.getD x0 (Int.toNat v5) (ByteArray.empty, 0, 0, 0, ())))) (Int.toNat v5) (ByteArray.empty, 0, 0, 0, ()))))) (Int.toNat v5) (ByteArray.empty, 0, 0, 0, ()))), x1 + 1 + 1, Prod.snd (Prod.snd (Prod.snd (List.getD (List.set (List.set x0 (Int.toNat v5) (g46_0 x1, Prod.snd (List.getD x0 (Int.toNat v5) (ByteArray.empty, 0, 0, 0, ())))) (Int.toNat v5) (Prod.fst (List.getD (List.set x0 (Int.toNat v5) (g46_0 x1, Prod.snd (List.getD x0 (Int.toNat v5) (ByteArray.empty, 0, 0, 0, ())))) (Int.toNat v5) (ByteArray.empty, 0, 0, 0, ())), x1 + 1, Prod.snd (Prod.snd (List.getD (List.set x0 (Int.toNat v5) (g46_0 x1, Prod.snd (List.getD x0 (Int.toNat v5) (ByteArray.empty, 0, 0, 0, ())))) (Int.toNat v5) (ByteArray.empty, 0, 0, 0, ()))))) (Int.toNat v5) (ByteArray.empty, 0, 0, 0, ())))))) (Int.toNat v5) (ByteArray.empty, 0, 0, 0, ())), Prod.fst (Prod.snd (List.getD (List.set (List.set (List.set x0 (Int.toNat v5) (g46_0 x1, Prod.snd (List.getD x0 (Int.toNat v5) (ByteArray.empty, 0, 0, 0, ())))) (Int.toNat v5) (Prod.fst (List.getD (List.set x0 (Int.toNat v5) (g46_0 x1, Prod.snd (List.getD x0 (Int.toNat v5) (ByteArray.empty, 0, 0, 0, ())))) (Int.toNat v5) (ByteArray.empty, 0, 0, 0, ())), x1 + 1, Prod.snd (Prod.snd (List.getD (List.set x0 (Int.toNat v5) (g46_0 x1, Prod.snd (List.getD x0 (Int.toNat v5) (ByteArray.empty, 0, 0, 0, ())))) (Int.toNat v5) (ByteArray.empty, 0, 0, 0, ()))))) (Int.toNat v5) (Prod.fst (List.getD (List.set (List.set x0 (Int.toNat v5) (g46_0 x1, Prod.snd (List.getD x0 (Int.toNat v5) (ByteArray.empty, 0, 0, 0, ())))) (Int.toNat v5) (Prod.fst (List.getD (List.set x0 (Int.toNat v5) (g46_0 x1, Prod.snd (List.getD x0 (Int.toNat v5) (ByteArray.empty, 0, 0, 0, ())))) (Int.toNat v5) (ByteArray.empty, 0, 0, 0, ())), x1 + 1, Prod.snd (Prod.snd (List.getD (List.set x0 (Int.toNat v5) (g46_0 x1, Prod.snd (List.getD x0 (Int.toNat v5) (ByteArray.empty, 0, 0, 0, ())))) (Int.toNat v5) (ByteArray.empty, 0, 0, 0, ()))))) (Int.toNat v5) (ByteArray.empty, 0, 0, 0, ())), Prod.fst (Prod.snd (List.getD (List.set (List.set x0 (Int.toNat v5) (g46_0 x1, Prod.snd (List.getD x0 (Int.toNat v5) (ByteArray.empty, 0, 0, 0, ())))) (Int.toNat v5) (Prod.fst (List.getD (List.set x0 (Int.toNat v5) (g46_0 x1, Prod.snd (List.getD x0 (Int.toNat v5) (ByteArray.empty, 0, 0, 0, ())))) (Int.toNat v5) (ByteArray.empty, 0, 0, 0, ())), x1 + 1, Prod.snd (Prod.snd (List.getD (List.set x0 (Int.toNat v5) (g46_0 x1, Prod.snd (List.getD x0 (Int.toNat v5) (ByteArray.empty, 0, 0, 0, ())))) (Int.toNat v5) (ByteArray.empty, 0, 0, 0, ()))))) (Int.toNat v5) (ByteArray.empty, 0, 0, 0, ()))), x1 + 1 + 1, Prod.snd (Prod.snd (Prod.snd (List.getD (List.set (List.set x0 (Int.toNat v5) (g46_0 x1, Prod.snd (List.getD x0 (Int.toNat v5) (ByteArray.empty, 0, 0, 0, ())))) (Int.toNat v5) (Prod.fst (List.getD (List.set x0 (Int.toNat v5) (g46_0 x1, Prod.snd (List.getD x0 (Int.toNat v5) (ByteArray.empty, 0, 0, 0, ())))) (Int.toNat v5) (ByteArray.empty, 0, 0, 0, ())), x1 + 1, Prod.snd (Prod.snd (List.getD (List.set x0 (Int.toNat v5) (g46_0 x1, Prod.snd (List.getD x0 (Int.toNat v5) (ByteArray.empty, 0, 0, 0, ())))) (Int.toNat v5) (ByteArray.empty, 0, 0, 0, ()))))) (Int.toNat v5) (ByteArray.empty, 0, 0, 0, ())))))) (Int.toNat v5) (ByteArray.empty, 0, 0, 0, ()))), Prod.fst (Prod.snd (Prod.snd (List.getD (List.set (List.set (List.set x0 (Int.toNat v5) (g46_0 x1, Prod.snd (List.getD x0 (Int.toNat v5) (ByteArray.empty, 0, 0, 0, ())))) (Int.toNat v5) (Prod.fst (List.getD (List.set x0 (Int.toNat v5) (g46_0 x1, Prod.snd (List.getD x0 (Int.toNat v5) (ByteArray.empty, 0, 0, 0, ())))) (Int.toNat v5) (ByteArray.empty, 0, 0, 0, ())), x1 + 1, Prod.snd (Prod.snd (List.getD (List.set x0 (Int.toNat v5) (g46_0 x1, Prod.snd (List.getD x0 (Int.toNat v5) (ByteArray.empty, 0, 0, 0, ())))) (Int.toNat v5) (ByteArray.empty, 0, 0, 0, ()))))) (Int.toNat v5) (Prod.fst (List.getD (List.set (List.set x0 (Int.toNat v5) (g46_0 x1, Prod.snd (List.getD x0 (Int.toNat v5) (ByteArray.empty, 0, 0, 0, ())))) (Int.toNat v5) (Prod.fst (List.getD (List.set x0 (Int.toNat v5) (g46_0 x1, Prod.snd (List.getD x0 (Int.toNat v5) (ByteArray.empty, 0, 0, 0, ())))) (Int.toNat v5) (ByteArray.empty, 0, 0, 0, ())), x1 + 1, Prod.snd (Prod.snd (List.getD (List.set x0 (Int.toNat v5) (g46_0 x1, Prod.snd (List.getD x0 (Int.toNat v5) (ByteArray.empty, 0, 0, 0, ())))) (Int.toNat v5) (ByteArray.empty, 0, 0, 0, ()))))) (Int.toNat v5) (ByteArray.empty, 0, 0, 0, ())), Prod.fst (Prod.snd (List.getD (List.set (List.set x0 (Int.toNat v5) (g46_0 x1, Prod.snd (List.getD x0 (Int.toNat v5) (ByteArray.empty, 0, 0, 0, ())))) (Int.toNat v5) (Prod.fst (List.getD (List.set x0 (Int.toNat v5) (g46_0 x1, Prod.snd (List.getD x0 (Int.toNat v5) (ByteArray.empty, 0, 0, 0, ())))) (Int.toNat v5) (ByteArray.empty, 0, 0, 0, ())), x1 + 1, Prod.snd (Prod.snd (List.getD (List.set x0 (Int.toNat v5) (g46_0 x1, Prod.snd (List.getD x0 (Int.toNat v5) (ByteArray.empty, 0, 0, 0, ())))) (Int.toNat v5) (ByteArray.empty, 0, 0, 0, ()))))) (Int.toNat v5) (ByteArray.empty, 0, 0, 0, ()))), x1 + 1 + 1, Prod.snd (Prod.snd (Prod.snd (List.getD (List.set (List.set x0 (Int.toNat v5) (g46_0 x1, Prod.snd (List.getD x0 (Int.toNat v5) (ByteArray.empty, 0, 0, 0, ())))) (Int.toNat v5) (Prod.fst (List.getD (List.set x0 (Int.toNat v5) (g46_0 x1, Prod.snd (List.getD x0 (Int.toNat v5) (ByteArray.empty, 0, 0, 0, ())))) (Int.toNat v5) (ByteArray.empty, 0, 0, 0, ())), x1 + 1, Prod.snd (Prod.snd (List.getD (List.set x0 (Int.toNat v5) (g46_0 x1, Prod.snd (List.getD x0 (Int.toNat v5) (ByteArray.empty, 0, 0, 0, ())))) (Int.toNat v5) (ByteArray.empty, 0, 0, 0, ()))))) (Int.toNat v5) (ByteArray.empty, 0, 0, 0, ())))))) (Int.toNat v5) (ByteArray.empty, 0, 0, 0, ())))), x1 + 1 + 1 + 1, Prod.snd (Prod.snd (Prod.snd (Prod.snd (List.getD (List.set (List.set (List.set x0 (Int.toNat v5) (g46_0 x1, Prod.snd (List.getD x0 (Int.toNat v5) (ByteArray.empty, 0, 0, 0, ())))) (Int.toNat v5) (Prod.fst (List.getD (List.set x0 (Int.toNat v5) (g46_0 x1, Prod.snd (List.getD x0 (Int.toNat v5) (ByteArray.empty, 0, 0, 0, ())))) (Int.toNat v5) (ByteArray.empty, 0, 0, 0, ())), x1 + 1, Prod.snd (Prod.snd (List.getD (List.set x0 (Int.toNat v5) (g46_0 x1, Prod.snd (List.getD x0 (Int.toNat v5) (ByteArray.empty, 0, 0, 0, ())))) (Int.toNat v5) (ByteArray.empty, 0, 0, 0, ()))))) (Int.toNat v5) (Prod.fst (List.getD (List.set (List.set x0 (Int.toNat v5) (g46_0 x1, Prod.snd (List.getD x0 (Int.toNat v5) (ByteArray.empty, 0, 0, 0, ())))) (Int.toNat v5) (Prod.fst (List.getD (List.set x0 (Int.toNat v5) (g46_0 x1, Prod.snd (List.getD x0 (Int.toNat v5) (ByteArray.empty, 0, 0, 0, ())))) (Int.toNat v5) (ByteArray.empty, 0, 0, 0, ())), x1 + 1, Prod.snd (Prod.snd (List.getD (List.set x0 (Int.toNat v5) (g46_0 x1, Prod.snd (List.getD x0 (Int.toNat v5) (ByteArray.empty, 0, 0, 0, ())))) (Int.toNat v5) (ByteArray.empty, 0, 0, 0, ()))))) (Int.toNat v5) (ByteArray.empty, 0, 0, 0, ())), Prod.fst (Prod.snd (List.getD (List.set (List.set x0 (Int.toNat v5) (g46_0 x1, Prod.snd (List.getD x0 (Int.toNat v5) (ByteArray.empty, 0, 0, 0, ())))) (Int.toNat v5) (Prod.fst (List.getD (List.set x0 (Int.toNat v5) (g46_0 x1, Prod.snd (List.getD x0 (Int.toNat v5) (ByteArray.empty, 0, 0, 0, ())))) (Int.toNat v5) (ByteArray.empty, 0, 0, 0, ())), x1 + 1, Prod.snd (Prod.snd (List.getD (List.set x0 (Int.toNat v5) (g46_0 x1, Prod.snd (List.getD x0 (Int.toNat v5) (ByteArray.empty, 0, 0, 0, ())))) (Int.toNat v5) (ByteArray.empty, 0, 0, 0, ()))))) (Int.toNat v5) (ByteArray.empty, 0, 0, 0, ()))), x1 + 1 + 1, Prod.snd (Prod.snd (Prod.snd (List.getD (List.set (List.set x0 (Int.toNat v5) (g46_0 x1, Prod.snd (List.getD x0 (Int.toNat v5) (ByteArray.empty, 0, 0, 0, ())))) (Int.toNat v5) (Prod.fst (List.getD (List.set x0 (Int.toNat v5) (g46_0 x1, Prod.snd (List.getD x0 (Int.toNat v5) (ByteArray.empty, 0, 0, 0, ())))) (Int.toNat v5) (ByteArray.empty, 0, 0, 0, ())), x1 + 1, Prod.snd (Prod.snd (List.getD (List.set x0 (Int.toNat v5) (g46_0 x1, Prod.snd (List.getD x0 (Int.toNat v5) (ByteArray.empty, 0, 0, 0, ())))) (Int.toNat v5) (ByteArray.empty, 0, 0, 0, ()))))) (Int.toNat v5) (ByteArray.empty, 0, 0, 0, ())))))) (Int.toNat v5) (ByteArray.empty, 0, 0, 0, ()))))))), [Decidable.decide (v5 < (↑(List.length x0) : Int)) = Bool.true, True, 0 ≤ v5, v5 < (↑(List.length x0) : Int), InR IntKind.i64 (x1 + 1), 0 ≤ v5, v5 < (↑(List.length (List.set x0 (Int.toNat v5) (g46_0 x1, Prod.snd (List.getD x0 (Int.toNat v5) (ByteArray.empty, 0, 0, 0, ()))))) : Int), InR IntKind.i64 (x1 + 1 + 1), 0 ≤ v5, v5 < (↑(List.length (List.set (List.set x0 (Int.toNat v5) (g46_0 x1, Prod.snd (List.getD x0 (Int.toNat v5) (ByteArray.empty, 0, 0, 0, ())))) (Int.toNat v5) (Prod.fst (List.getD (List.set x0 (Int.toNat v5) (g46_0 x1, Prod.snd (List.getD x0 (Int.toNat v5) (ByteArray.empty, 0, 0, 0, ())))) (Int.toNat v5) (ByteArray.empty, 0, 0, 0, ())), x1 + 1, Prod.snd (Prod.snd (List.getD (List.set x0 (Int.toNat v5) (g46_0 x1, Prod.snd (List.getD x0 (Int.toNat v5) (ByteArray.empty, 0, 0, 0, ())))) (Int.toNat v5) (ByteArray.empty, 0, 0, 0, ())))))) : Int), InR IntKind.i64 (x1 + 1 + 1 + 1), 0 ≤ v5, v5 < (↑(List.length (List.set (List.set (List.set x0 (Int.toNat v5) (g46_0 x1, Prod.snd (List.getD x0 (Int.toNat v5) (ByteArray.empty, 0, 0, 0, ())))) (Int.toNat v5) (Prod.fst (List.getD (List.set x0 (Int.toNat v5) (g46_0 x1, Prod.snd (List.getD x0 (Int.toNat v5) (ByteArray.empty, 0, 0, 0, ())))) (Int.toNat v5) (ByteArray.empty, 0, 0, 0, ())), x1 + 1, Prod.snd (Prod.snd (List.getD (List.set x0 (Int.toNat v5) (g46_0 x1, Prod.snd (List.getD x0 (Int.toNat v5) (ByteArray.empty, 0, 0, 0, ())))) (Int.toNat v5) (ByteArray.empty, 0, 0, 0, ()))))) (Int.toNat v5) (Prod.fst (List.getD (List.set (List.set x0 (Int.toNat v5) (g46_0 x1, Prod.snd (List.getD x0 (Int.toNat v5) (ByteArray.empty, 0, 0, 0, ())))) (Int.toNat v5) (Prod.fst (List.getD (List.set x0 (Int.toNat v5) (g46_0 x1, Prod.snd (List.getD x0 (Int.toNat v5) (ByteArray.empty, 0, 0, 0, ())))) (Int.toNat v5) (ByteArray.empty, 0, 0, 0, ())), x1 + 1, Prod.snd (Prod.snd (List.getD (List.set x0 (Int.toNat v5) (g46_0 x1, Prod.snd (List.getD x0 (Int.toNat v5) (ByteArray.empty, 0, 0, 0, ())))) (Int.toNat v5) (ByteArray.empty, 0, 0, 0, ()))))) (Int.toNat v5) (ByteArray.empty, 0, 0, 0, ())), Prod.fst (Prod.snd (List.getD (List.set (List.set x0 (Int.toNat v5) (g46_0 x1, Prod.snd (List.getD x0 (Int.toNat v5) (ByteArray.empty, 0, 0, 0, ())))) (Int.toNat v5) (Prod.fst (List.getD (List.set x0 (Int.toNat v5) (g46_0 x1, Prod.snd (List.getD x0 (Int.toNat v5) (ByteArray.empty, 0, 0, 0, ())))) (Int.toNat v5) (ByteArray.empty, 0, 0, 0, ())), x1 + 1, Prod.snd (Prod.snd (List.getD (List.set x0 (Int.toNat v5) (g46_0 x1, Prod.snd (List.getD x0 (Int.toNat v5) (ByteArray.empty, 0, 0, 0, ())))) (Int.toNat v5) (ByteArray.empty, 0, 0, 0, ()))))) (Int.toNat v5) (ByteArray.empty, 0, 0, 0, ()))), x1 + 1 + 1, Prod.snd (Prod.snd (Prod.snd (List.getD (List.set (List.set x0 (Int.toNat v5) (g46_0 x1, Prod.snd (List.getD x0 (Int.toNat v5) (ByteArray.empty, 0, 0, 0, ())))) (Int.toNat v5) (Prod.fst (List.getD (List.set x0 (Int.toNat v5) (g46_0 x1, Prod.snd (List.getD x0 (Int.toNat v5) (ByteArray.empty, 0, 0, 0, ())))) (Int.toNat v5) (ByteArray.empty, 0, 0, 0, ())), x1 + 1, Prod.snd (Prod.snd (List.getD (List.set x0 (Int.toNat v5) (g46_0 x1, Prod.snd (List.getD x0 (Int.toNat v5) (ByteArray.empty, 0, 0, 0, ())))) (Int.toNat v5) (ByteArray.empty, 0, 0, 0, ()))))) (Int.toNat v5) (ByteArray.empty, 0, 0, 0, ()))))))) : Int), InR IntKind.i64 (x1 + 1 + 1 + 1 + 1), InR IntKind.i64 (v5 + 1)]) := by kernel_rfl
theorem p22_2 (v5 : Int) (x1 : Int) (x0 : List (ByteArray × Int × Int × Int × Unit)) : runF tab ext22 false 42 [] 2000 [0] oks22 kds22 tys22 Try.f22.results [false] (cutAt b22 2) (E22_2 v5 x1 x0) (L22_2 v5 x1 x0) = some ([Dyn.mk (Ty.int IntKind.i64) x1], [Option.some (Lst.mk (Ty.cons Ty.str (Ty.cons (Ty.int IntKind.i64) (Ty.cons (Ty.int IntKind.i64) (Ty.cons (Ty.int IntKind.i64) Ty.unit)))) x0)], [Decidable.decide (v5 < (↑(List.length x0) : Int)) = Bool.false]) := by kernel_rfl
theorem snd22 : ∀ n, (∀ (x0 : List (ByteArray × Int × Int × Int × Unit)) (x1 : Int) ds us, R22 n x0 x1 ds us → ∀ K q, AtV Try.prog 22 (PostR kds22 oks22 ds us [0] q K) 42 K q [0] [.code b22] (entE 0 0 sig22 (x0, x1, ())) (entL sig22 (x0, x1, ()))) ∧ (∀ (v5 : Int) (x1 : Int) (x0 : List (ByteArray × Int × Int × Int × Unit)) ds us, R22_2 n v5 x1 x0 ds us → ∀ K q, AtV Try.prog 22 (PostR kds22 oks22 ds us [0] q K) 42 K q [0] (cutAt b22 2) (E22_2 v5 x1 x0) (L22_2 v5 x1 x0)) := by
  intro n
  induction n with
  | zero => exact ⟨fun _ _ _ _ h => by simp only [R22] at h, fun _ _ _ _ _ h => by simp only [R22_2] at h⟩
  | succ n ih =>
  obtain ⟨ih, ih2⟩ := ih
  refine ⟨?_, ?_⟩
  · intro x0 x1 ds us h K q
    rw [R22] at h
    exact AtV.runN tabOk ext22Ok mixed (p22_0 x0 x1) trivial (ih2 _ _ _ _ _ h K q)

  · intro v5 x1 x0 ds us h K q
    rw [R22_2] at h
    by_cases b0 : (Decidable.decide (v5 < (↑(List.length x0) : Int))) = true
    · rw [if_pos b0] at h
      obtain ⟨s0, s1, h⟩ := h
      obtain ⟨s2, h⟩ := h
      obtain ⟨s3, s4, h⟩ := h
      obtain ⟨s5, h⟩ := h
      obtain ⟨s6, s7, h⟩ := h
      obtain ⟨s8, h⟩ := h
      obtain ⟨s9, s10, h⟩ := h
      obtain ⟨s11, h⟩ := h
      obtain ⟨s12, h⟩ := h
      exact AtV.runN tabOk ext22Ok mixed (p22_1 v5 x1 x0) ⟨b0, trivial, s0, s1, s2, s3, s4, s5, s6, s7, s8, s9, s10, s11, s12, trivial⟩ (ih2 _ _ _ _ _ h K q)
    · rw [if_neg b0] at h
      replace b0 := Bool.eq_false_iff.2 b0
      obtain ⟨h, h'⟩ := h; subst h; subst h'
      exact AtV.fin Try.func22 tabOk ext22Ok mixed (p22_2 v5 x1 x0) ⟨b0, trivial⟩



def M22 (x1 : Int) (n : Nat) : List (ByteArray × Int × Int × Int × Unit) := (List.range n).map fun (j : Nat) => (g46_0 (x1 + 4 * (j : Int)), (x1 + 4 * (j : Int) + 1), (x1 + 4 * (j : Int) + 1 + 1), (x1 + 4 * (j : Int) + 1 + 1 + 1), ())

theorem M22_len (x1 : Int) (n : Nat) : (M22 x1 n).length = n := by simp [M22]

theorem M22_succ (x1 : Int) (n : Nat) : M22 x1 (n + 1) = M22 x1 n ++ [(g46_0 (x1 + 4 * (n : Int)), (x1 + 4 * (n : Int) + 1), (x1 + 4 * (n : Int) + 1 + 1), (x1 + 4 * (n : Int) + 1 + 1 + 1), ())] := by
  simp [M22, List.range_succ]

theorem run22 (x0 : List (ByteArray × Int × Int × Int × Unit)) (x1 : Int) (hm : x0.length ≤ maxLen) (h0 : 0 ≤ x1) (h1 : x1 + 4 * x0.length ≤ 9223372036854775807) : ∀ (k i : Nat), i + k = x0.length →
    R22_2 (k + 1) (i : Int) (x1 + 4 * (i : Int)) (M22 x1 i ++ x0.drop i) [⟨.int .i64, x1 + 4 * (x0.length : Int)⟩] [some ⟨(.cons .str (.cons (.int .i64) (.cons (.int .i64) (.cons (.int .i64) .unit)))), M22 x1 x0.length⟩] := by
  intro k
  induction k with
  | zero =>
    intro i hi
    have hl : (M22 x1 i ++ x0.drop i).length = x0.length := by simp [M22_len]; omega
    rw [R22_2, if_neg (by rw [hl]; simp; omega), drop_end x0 i (by omega), List.append_nil]
    have : i = x0.length := by omega
    subst this
    exact ⟨rfl, rfl⟩
  | succ k ih =>
    intro i hi
    have hl : (M22 x1 i ++ x0.drop i).length = x0.length := by simp [M22_len]; omega
    have hA := M22_len x1 i
    rw [R22_2, if_pos (by rw [hl]; simp; omega)]
    rw [drop_get x0 i (ByteArray.empty, (0 : Int), (0 : Int), (0 : Int), ()) (by omega)] at hl ⊢
    simp only [Int.toNat_natCast, set_mid _ _ _ _ i hA, get_mid _ _ _ _ i hA]
    have hl' : ∀ y : (ByteArray × Int × Int × Int × Unit), ((M22 x1 i ++ y :: x0.drop (i + 1)).length : Int) = x0.length := fun y => by rw [← hl]; simp
    simp only [hl']
    refine ⟨by omega, by omega, by rw [i64_iff]; omega, by omega, by omega, by rw [i64_iff]; omega, by omega, by omega, by rw [i64_iff]; omega, by omega, by omega, by rw [i64_iff]; omega, inR_up hm (by omega), ?_⟩
    have hx : x1 + 4 * (i : Int) + 1 + 1 + 1 + 1 = x1 + 4 * ((i + 1 : Nat) : Int) := by omega
    have := ih (i + 1) (by omega)
    rw [M22_succ, List.append_assoc] at this
    rw [hx]
    simpa using this

def P22 (x0 : List (ByteArray × Int × Int × Int × Unit)) (x1 : Int) : Prop := 0 ≤ x1 ∧ x1 + 4 * x0.length ≤ 9223372036854775807
def g22_0 (x0 : List (ByteArray × Int × Int × Int × Unit)) (x1 : Int) : Int := x1 + 4 * (x0.length : Int)
def u22_0 (x0 : List (ByteArray × Int × Int × Int × Unit)) (x1 : Int) : List (ByteArray × Int × Int × Int × Unit) := M22 x1 x0.length

theorem top22 (x0 : List (ByteArray × Int × Int × Int × Unit)) (x1 : Int) (hm : x0.length ≤ maxLen) (h : P22 x0 x1) : R22 (x0.length + 1 + 1) x0 x1 [⟨.int .i64, g22_0 x0 x1⟩] [some ⟨(.cons .str (.cons (.int .i64) (.cons (.int .i64) (.cons (.int .i64) .unit)))), u22_0 x0 x1⟩] := by
  rw [R22]
  have := run22 x0 x1 hm h.1 h.2 x0.length 0 (by omega)
  simpa [M22, g22_0, u22_0] using this

def S22 : Am.Spec := { sig := sig22, pre := fun ⟨x0, x1, _⟩ => P22 x0 x1, upd := fun ⟨x0, x1, _⟩ => [some ⟨(.cons .str (.cons (.int .i64) (.cons (.int .i64) (.cons (.int .i64) .unit)))), u22_0 x0 x1⟩], res := fun ⟨x0, x1, _⟩ => [⟨.int .i64, g22_0 x0 x1⟩] }
theorem con22 : Contract Try.prog 22 S22 := contract_of Try.func22 hb22 (Nat.le_of_ble_eq_true (by kernel_rfl)) (fun ⟨x0, x1, _⟩ h hwf K q =>
  (snd22 _).1 x0 x1 _ _ (top22 x0 x1 hwf.1.1 h) K q)

end Go.Proofs.Ytleifkpekoinlaa

/- Function 30 (laws.heldBendS): its runs between cut points. Written by a program of this repo (gen). -/
set_option linter.unusedVariables false
set_option linter.unusedSimpArgs false
set_option maxRecDepth 100000
namespace Go.Proofs.Ytleifkpekoinlaa
open Go Go.Am Go.Proofs
def ext30 : Ext := [(46, S46)]
theorem call30_46 : Callable Try.prog 46 := ⟨Try.f46, Try.func46, by kernel_rfl, by kernel_rfl⟩
theorem ext30Ok : ExtOk Try.prog ext30 := ⟨⟨call30_46, con46⟩, trivial⟩
/-! Function 30. -/
noncomputable def b30 : Code := bodyOf Try.f30
theorem hb30 : Try.f30.body = some b30 := by kernel_rfl
def sig30 : List AT := [AT.v (Ty.sl (Ty.cons Ty.str (Ty.cons (Ty.int IntKind.i64) (Ty.cons (Ty.int IntKind.i64) (Ty.cons (Ty.int IntKind.i64) Ty.unit))))), AT.v (Ty.int IntKind.i64)]
def tys30 : List Ty := [Ty.int IntKind.i64]
def kds30 : List RK := []
def oks30 : List AT := owns sig30
def E30_2 (v5 : Int) (x0 : List (ByteArray × Int × Int × Int × Unit)) (x1 : Int) : Env := [(0, PV.a (Atom.sl (Ty.cons Ty.str (Ty.cons (Ty.int IntKind.i64) (Ty.cons (Ty.int IntKind.i64) (Ty.cons (Ty.int IntKind.i64) Ty.unit)))) x0)), (1, PV.a (Atom.val (Value.int IntKind.i64 x1))), (5, PV.a (Atom.val (Value.int IntKind.i64 v5)))]
def L30_2 (v5 : Int) (x0 : List (ByteArray × Int × Int × Int × Unit)) (x1 : Int) : Heap := []
mutual
def R30 : Nat → List (ByteArray × Int × Int × Int × Unit) → Int → List Dyn → Prop
  | 0, _, _, _ => False
  | n + 1, x0, x1, ds => (R30_2 n (0) (x0) (x1) ds)
def R30_2 : Nat → Int → List (ByteArray × Int × Int × Int × Unit) → Int → List Dyn → Prop
  | 0, _, _, _, _ => False
  | n + 1, v5, x0, x1, ds => (if (Decidable.decide (v5 < (↑(List.length x0) : Int))) = true then ((0 ≤ v5) ∧ (v5 < (↑(List.length x0) : Int)) ∧ (if (!ByteArray.toList (Prod.fst (List.getD x0 (Int.toNat v5) (ByteArray.empty, 0, 0, 0, ()))) == ByteArray.toList (g46_0 x1)) = true then (ds = [Dyn.mk (Ty.int IntKind.i64) (-1)]) else ((InR IntKind.i64 (x1 + 1)) ∧ ((0 ≤ v5) ∧ (v5 < (↑(List.length x0) : Int)) ∧ (if (Prod.fst (Prod.snd (List.getD x0 (Int.toNat v5) (ByteArray.empty, 0, 0, 0, ()))) != x1 + 1) = true then (ds = [Dyn.mk (Ty.int IntKind.i64) (-1)]) else ((InR IntKind.i64 (x1 + 1 + 1)) ∧ ((0 ≤ v5) ∧ (v5 < (↑(List.length x0) : Int)) ∧ (if (Prod.fst (Prod.snd (Prod.snd (List.getD x0 (Int.toNat v5) (ByteArray.empty, 0, 0, 0, ())))) != x1 + 1 + 1) = true then (ds = [Dyn.mk (Ty.int IntKind.i64) (-1)]) else ((InR IntKind.i64 (x1 + 1 + 1 + 1)) ∧ ((0 ≤ v5) ∧ (v5 < (↑(List.length x0) : Int)) ∧ (if (Prod.fst (Prod.snd (Prod.snd (Prod.snd (List.getD x0 (Int.toNat v5) (ByteArray.empty, 0, 0, 0, ()))))) != x1 + 1 + 1 + 1) = true then (ds = [Dyn.mk (Ty.int IntKind.i64) (-1)]) else ((InR IntKind.i64 (x1 + 1 + 1 + 1 + 1)) ∧ ((InR IntKind.i64 (v5 + 1)) ∧ (R30_2 n (v5 + 1) (x0) (x1 + 1 + 1 + 1 + 1) ds)))))))))))))) else (ds = [Dyn.mk (Ty.int IntKind.i64) x1]))
end
theorem p30_0 (x0 : List (ByteArray × Int × Int × Int × Unit)) (x1 : Int) : Am.runN tab ext30 false 50 [] 2000 [] [] [0, 1, 5] [] [] [.code b30] (entE 0 0 sig30 (x0, x1, ())) (entL sig30 (x0, x1, ())) = some (cutAt b30 2, E30_2 (0) (x0) (x1), L30_2 (0) (x0) (x1), []) := by kernel_rfl
theorem p30_1 (v5 : Int) (x0 : List (ByteArray × Int × Int × Int × Unit)) (x1 : Int) : runF tab ext30 false 50 [] 2000 [] oks30 kds30 tys30 Try.f30.results [true, true] (cutAt b30 2) (E30_2 v5 x0 x1) (L30_2 v5 x0 x1) = some ([Dyn.mk (Ty.int IntKind.i64) (-1)], [], [Decidable.decide (v5 < (↑(List.length x0) : Int)) = Bool.true, 0 ≤ v5, v5 < (↑(List.length x0) : Int), True, (!ByteArray.toList (Prod.fst (List.getD x0 (Int.toNat v5) (ByteArray.empty, 0, 0, 0, ()))) == ByteArray.toList (g46_0 x1)) = Bool.true]) := by kernel_rfl
theorem p30_2 (v5 : Int) (x0 : List (ByteArray × Int × Int × Int × Unit)) (x1 : Int) : runF tab ext30 false 50 [] 2000 [] oks30 kds30 tys30 Try.f30.results [true, false, true] (cutAt b30 2) (E30_2 v5 x0 x1) (L30_2 v5 x0 x1) = some ([Dyn.mk (Ty.int IntKind.i64) (-1)], [], [Decidable.decide (v5 < (↑(List.length x0) : Int)) = Bool.true, 0 ≤ v5, v5 < (↑(List.length x0) : Int), True, (!ByteArray.toList (Prod.fst (List.getD x0 (Int.toNat v5) (ByteArray.empty, 0, 0, 0, ()))) == ByteArray.toList (g46_0 x1)) = Bool.false, InR IntKind.i64 (x1 + 1), 0 ≤ v5, v5 < (↑(List.length x0) : Int), (Prod.fst (Prod.snd (List.getD x0 (Int.toNat v5) (ByteArray.empty, 0, 0, 0, ()))) != x1 + 1) = Bool.true]) := by kernel_rfl
theorem p30_3 (v5 : Int) (x0 : List (ByteArray × Int × Int × Int × Unit)) (x1 : Int) : runF tab ext30 false 50 [] 2000 [] oks30 kds30 tys30 Try.f30.results [true, false, false, true] (cutAt b30 2) (E30_2 v5 x0 x1) (L30_2 v5 x0 x1) = some ([Dyn.mk (Ty.int IntKind.i64) (-1)], [], [Decidable.decide (v5 < (↑(List.length x0) : Int)) = Bool.true, 0 ≤ v5, v5 < (↑(List.length x0) : Int), True, (!ByteArray.toList (Prod.fst (List.getD x0 (Int.toNat v5) (ByteArray.empty, 0, 0, 0, ()))) == ByteArray.toList (g46_0 x1)) = Bool.false, InR IntKind.i64 (x1 + 1), 0 ≤ v5, v5 < (↑(List.length x0) : Int), (Prod.fst (Prod.snd (List.getD x0 (Int.toNat v5) (ByteArray.empty, 0, 0, 0, ()))) != x1 + 1) = Bool.false, InR IntKind.i64 (x1 + 1 + 1), 0 ≤ v5, v5 < (↑(List.length x0) : Int), (Prod.fst (Prod.snd (Prod.snd (List.getD x0 (Int.toNat v5) (ByteArray.empty, 0, 0, 0, ())))) != x1 + 1 + 1) = Bool.true]) := by kernel_rfl
theorem p30_4 (v5 : Int) (x0 : List (ByteArray × Int × Int × Int × Unit)) (x1 : Int) : runF tab ext30 false 50 [] 2000 [] oks30 kds30 tys30 Try.f30.results [true, false, false, false, true] (cutAt b30 2) (E30_2 v5 x0 x1) (L30_2 v5 x0 x1) = some ([Dyn.mk (Ty.int IntKind.i64) (-1)], [], [Decidable.decide (v5 < (↑(List.length x0) : Int)) = Bool.true, 0 ≤ v5, v5 < (↑(List.length x0) : Int), True, (!ByteArray.toList (Prod.fst (List.getD x0 (Int.toNat v5) (ByteArray.empty, 0, 0, 0, ()))) == ByteArray.toList (g46_0 x1)) = Bool.false, InR IntKind.i64 (x1 + 1), 0 ≤ v5, v5 < (↑(List.length x0) : Int), (Prod.fst (Prod.snd (List.getD x0 (Int.toNat v5) (ByteArray.empty, 0, 0, 0, ()))) != x1 + 1) = Bool.false, InR IntKind.i64 (x1 + 1 + 1), 0 ≤ v5, v5 < (↑(List.length x0) : Int), (Prod.fst (Prod.snd (Prod.snd (List.getD x0 (Int.toNat v5) (ByteArray.empty, 0, 0, 0, ())))) != x1 + 1 + 1) = Bool.false, InR IntKind.i64 (x1 + 1 + 1 + 1), 0 ≤ v5, v5 < (↑(List.length x0) : Int), (Prod.fst (Prod.snd (Prod.snd (Prod.snd (List.getD x0 (Int.toNat v5) (ByteArray.empty, 0, 0, 0, ()))))) != x1 + 1 + 1 + 1) = Bool.true]) := by kernel_rfl
theorem p30_5 (v5 : Int) (x0 : List (ByteArray × Int × Int × Int × Unit)) (x1 : Int) : Am.runN tab ext30 false 50 [] 2000 [] [] [0, 1, 5] [] [true, false, false, false, false] (cutAt b30 2) (E30_2 v5 x0 x1) (L30_2 v5 x0 x1) = some (cutAt b30 2, E30_2 (v5 + 1) (x0) (x1 + 1 + 1 + 1 + 1), L30_2 (v5 + 1) (x0) (x1 + 1 + 1 + 1 + 1), [Decidable.decide (v5 < (↑(List.length x0) : Int)) = Bool.true, 0 ≤ v5, v5 < (↑(List.length x0) : Int), True, (!ByteArray.toList (Prod.fst (List.getD x0 (Int.toNat v5) (ByteArray.empty, 0, 0, 0, ()))) == ByteArray.toList (g46_0 x1)) = Bool.false, InR IntKind.i64 (x1 + 1), 0 ≤ v5, v5 < (↑(List.length x0) : Int), (Prod.fst (Prod.snd (List.getD x0 (Int.toNat v5) (ByteArray.empty, 0, 0, 0, ()))) != x1 + 1) = Bool.false, InR IntKind.i64 (x1 + 1 + 1), 0 ≤ v5, v5 < (↑(List.length x0) : Int), (Prod.fst (Prod.snd (Prod.snd (List.getD x0 (Int.toNat v5) (ByteArray.empty, 0, 0, 0, ())))) != x1 + 1 + 1) = Bool.false, InR IntKind.i64 (x1 + 1 + 1 + 1), 0 ≤ v5, v5 < (↑(List.length x0) : Int), (Prod.fst (Prod.snd (Prod.snd (Prod.snd (List.getD x0 (Int.toNat v5) (ByteArray.empty, 0, 0, 0, ()))))) != x1 + 1 + 1 + 1) = Bool.false, InR IntKind.i64 (x1 + 1 + 1 + 1 + 1), InR IntKind.i64 (v5 + 1)]) := by kernel_rfl
theorem p30_6 (v5 : Int) (x0 : List (ByteArray × Int × Int × Int × Unit)) (x1 : Int) : runF tab ext30 false 50 [] 2000 [] oks30 kds30 tys30 Try.f30.results [false] (cutAt b30 2) (E30_2 v5 x0 x1) (L30_2 v5 x0 x1) = some ([Dyn.mk (Ty.int IntKind.i64) x1], [], [Decidable.decide (v5 < (↑(List.length x0) : Int)) = Bool.false]) := by kernel_rfl
theorem snd30 : ∀ n, (∀ (x0 : List (ByteArray × Int × Int × Int × Unit)) (x1 : Int) ds, R30 n x0 x1 ds → ∀ K q, AtV Try.prog 30 (PostR kds30 oks30 ds [] [] q K) 50 K q [] [.code b30] (entE 0 0 sig30 (x0, x1, ())) (entL sig30 (x0, x1, ()))) ∧ (∀ (v5 : Int) (x0 : List (ByteArray × Int × Int × Int × Unit)) (x1 : Int) ds, R30_2 n v5 x0 x1 ds → ∀ K q, AtV Try.prog 30 (PostR kds30 oks30 ds [] [] q K) 50 K q [] (cutAt b30 2) (E30_2 v5 x0 x1) (L30_2 v5 x0 x1)) := by
  intro n
  induction n with
  | zero => exact ⟨fun _ _ _ h => by simp only [R30] at h, fun _ _ _ _ h => by simp only [R30_2] at h⟩
  | succ n ih =>
  obtain ⟨ih, ih2⟩ := ih
  refine ⟨?_, ?_⟩
  · intro x0 x1 ds h K q
    rw [R30] at h
    exact AtV.runN tabOk ext30Ok mixed (p30_0 x0 x1) trivial (ih2 _ _ _ _ h K q)

  · intro v5 x0 x1 ds h K q
    rw [R30_2] at h
    by_cases b0 : (Decidable.decide (v5 < (↑(List.length x0) : Int))) = true
    · rw [if_pos b0] at h
      obtain ⟨s0, s1, h⟩ := h
      by_cases b1 : (!ByteArray.toList (Prod.fst (List.getD x0 (Int.toNat v5) (ByteArray.empty, 0, 0, 0, ()))) == ByteArray.toList (g46_0 x1)) = true
      · rw [if_pos b1] at h
        subst h
        exact AtV.fin Try.func30 tabOk ext30Ok mixed (p30_1 v5 x0 x1) ⟨b0, s0, s1, trivial, b1, trivial⟩
      · rw [if_neg b1] at h
        replace b1 := Bool.eq_false_iff.2 b1
        obtain ⟨s2, h⟩ := h
        obtain ⟨s3, s4, h⟩ := h
        by_cases b2 : (Prod.fst (Prod.snd (List.getD x0 (Int.toNat v5) (ByteArray.empty, 0, 0, 0, ()))) != x1 + 1) = true
        · rw [if_pos b2] at h
          subst h
          exact AtV.fin Try.func30 tabOk ext30Ok mixed (p30_2 v5 x0 x1) ⟨b0, s0, s1, trivial, b1, s2, s3, s4, b2, trivial⟩
        · rw [if_neg b2] at h
          replace b2 := Bool.eq_false_iff.2 b2
          obtain ⟨s5, h⟩ := h
          obtain ⟨s6, s7, h⟩ := h
          by_cases b3 : (Prod.fst (Prod.snd (Prod.snd (List.getD x0 (Int.toNat v5) (ByteArray.empty, 0, 0, 0, ())))) != x1 + 1 + 1) = true
          · rw [if_pos b3] at h
            subst h
            exact AtV.fin Try.func30 tabOk ext30Ok mixed (p30_3 v5 x0 x1) ⟨b0, s0, s1, trivial, b1, s2, s3, s4, b2, s5, s6, s7, b3, trivial⟩
          · rw [if_neg b3] at h
            replace b3 := Bool.eq_false_iff.2 b3
            obtain ⟨s8, h⟩ := h
            obtain ⟨s9, s10, h⟩ := h
            by_cases b4 : (Prod.fst (Prod.snd (Prod.snd (Prod.snd (List.getD x0 (Int.toNat v5) (ByteArray.empty, 0, 0, 0, ()))))) != x1 + 1 + 1 + 1) = true
            · rw [if_pos b4] at h
              subst h
              exact AtV.fin Try.func30 tabOk ext30Ok mixed (p30_4 v5 x0 x1) ⟨b0, s0, s1, trivial, b1, s2, s3, s4, b2, s5, s6, s7, b3, s8, s9, s10, b4, trivial⟩
            · rw [if_neg b4] at h
              replace b4 := Bool.eq_false_iff.2 b4
              obtain ⟨s11, h⟩ := h
              obtain ⟨s12, h⟩ := h
              exact AtV.runN tabOk ext30Ok mixed (p30_5 v5 x0 x1) ⟨b0, s0, s1, trivial, b1, s2, s3, s4, b2, s5, s6, s7, b3, s8, s9, s10, b4, s11, s12, trivial⟩ (ih2 _ _ _ _ h K q)
    · rw [if_neg b0] at h
      replace b0 := Bool.eq_false_iff.2 b0
      subst h
      exact AtV.fin Try.func30 tabOk ext30Ok mixed (p30_6 v5 x0 x1) ⟨b0, trivial⟩



theorem run30 (x0 : List (ByteArray × Int × Int × Int × Unit)) (x1 : Int) (hm : x0.length ≤ maxLen) (h0 : 0 ≤ x1) (h1 : x1 + 4 * x0.length ≤ 9223372036854775807) (he : ∀ i : Nat, i < x0.length → x0.getD i (ByteArray.empty, (0 : Int), (0 : Int), (0 : Int), ()) = (g46_0 (x1 + 4 * (i : Int)), (x1 + 4 * (i : Int) + 1), (x1 + 4 * (i : Int) + 1 + 1), (x1 + 4 * (i : Int) + 1 + 1 + 1), ())) : ∀ (k i : Nat), i + k = x0.length →
    R30_2 (k + 1) (i : Int) x0 (x1 + 4 * (i : Int)) [⟨.int .i64, x1 + 4 * (x0.length : Int)⟩] := by
  intro k
  induction k with
  | zero =>
    intro i hi
    rw [R30_2, if_neg (by simp; omega)]
    have : i = x0.length := by omega
    subst this
    rfl
  | succ k ih =>
    intro i hi
    rw [R30_2, if_pos (by simp; omega)]
    simp only [Int.toNat_natCast, he i (by omega)]
    have hb : ∀ y : ByteArray, (!(ByteArray.toList y == ByteArray.toList y)) = true → False := fun y h => by rw [(bytes_eq y y).2 rfl] at h; cases h
    refine ⟨by omega, by omega, ?_⟩
    rw [if_neg (hb _)]
    refine ⟨by rw [i64_iff]; omega, by omega, by omega, ?_⟩
    rw [if_neg (by simp only [bne_self_eq_false, Bool.false_eq_true, not_false_eq_true])]
    refine ⟨by rw [i64_iff]; omega, by omega, by omega, ?_⟩
    rw [if_neg (by simp only [bne_self_eq_false, Bool.false_eq_true, not_false_eq_true])]
    refine ⟨by rw [i64_iff]; omega, by omega, by omega, ?_⟩
    rw [if_neg (by simp only [bne_self_eq_false, Bool.false_eq_true, not_false_eq_true])]
    refine ⟨by rw [i64_iff]; omega, inR_up hm (by omega), ?_⟩
    have hx : x1 + 4 * (i : Int) + 1 + 1 + 1 + 1 = x1 + 4 * ((i + 1 : Nat) : Int) := by omega
    rw [hx]
    exact ih (i + 1) (by omega)

def P30 (x0 : List (ByteArray × Int × Int × Int × Unit)) (x1 : Int) : Prop := (0 ≤ x1 ∧ x1 + 4 * x0.length ≤ 9223372036854775807) ∧ ∀ i : Nat, i < x0.length → x0.getD i (ByteArray.empty, (0 : Int), (0 : Int), (0 : Int), ()) = (g46_0 (x1 + 4 * (i : Int)), (x1 + 4 * (i : Int) + 1), (x1 + 4 * (i : Int) + 1 + 1), (x1 + 4 * (i : Int) + 1 + 1 + 1), ())
def g30_0 (x0 : List (ByteArray × Int × Int × Int × Unit)) (x1 : Int) : Int := x1 + 4 * (x0.length : Int)

theorem top30 (x0 : List (ByteArray × Int × Int × Int × Unit)) (x1 : Int) (hm : x0.length ≤ maxLen) (h : P30 x0 x1) : R30 (x0.length + 1 + 1) x0 x1 [⟨.int .i64, g30_0 x0 x1⟩] := by
  rw [R30]
  have := run30 x0 x1 hm h.1.1 h.1.2 h.2 x0.length 0 (by omega)
  simpa [g30_0] using this

def S30 : Am.Spec := { sig := sig30, pre := fun ⟨x0, x1, _⟩ => P30 x0 x1, res := fun ⟨x0, x1, _⟩ => [⟨.int .i64, g30_0 x0 x1⟩] }
theorem con30 : Contract Try.prog 30 S30 := contract_of Try.func30 hb30 (Nat.le_of_ble_eq_true (by kernel_rfl)) (fun ⟨x0, x1, _⟩ h hwf K q =>
  (snd30 _).1 x0 x1 _ (top30 x0 x1 hwf.1.1 h) K q)

end Go.Proofs.Ytleifkpekoinlaa

/- Function 23 (laws.markHourS): its runs between cut points. Written by a program of this repo (gen). -/
set_option linter.unusedVariables false
set_option linter.unusedSimpArgs false
set_option maxRecDepth 100000
namespace Go.Proofs.Ytleifkpekoinlaa
open Go Go.Am Go.Proofs
def ext23 : Ext := []
theorem ext23Ok : ExtOk Try.prog ext23 := trivial
/-! Function 23. -/
noncomputable def b23 : Code := bodyOf Try.f23
theorem hb23 : Try.f23.body = some b23 := by kernel_rfl
def sig23 : List AT := [AT.own (Ty.cons (Ty.int IntKind.i64) (Ty.cons (Ty.int IntKind.i64) (Ty.cons (Ty.int IntKind.i64) Ty.unit))), AT.v (Ty.int IntKind.i64)]
def tys23 : List Ty := [Ty.int IntKind.i64]
def kds23 : List RK := []
def oks23 : List AT := owns sig23
def E23_2 (v5 : Int) (x1 : Int) (x0 : List (Int × Int × Int × Unit)) : Env := [(0, PV.a (Atom.osl 0 Option.none)), (1, PV.a (Atom.val (Value.int IntKind.i64 x1))), (5, PV.a (Atom.val (Value.int IntKind.i64 v5)))]
def L23_2 (v5 : Int) (x1 : Int) (x0 : List (Int × Int × Int × Unit)) : Heap := [Option.some (Arr.mk (Ty.cons (Ty.int IntKind.i64) (Ty.cons (Ty.int IntKind.i64) (Ty.cons (Ty.int IntKind.i64) Ty.unit))) x0 Bool.false Option.none Option.none)]
mutual
def R23 : Nat → List (Int × Int × Int × Unit) → Int → List Dyn → List (Option Lst) → Prop
  | 0, _, _, _, _ => False
  | n + 1, x0, x1, ds, us => (R23_2 n (0) (x1) (x0) ds us)
def R23_2 : Nat → Int → Int → List (Int × Int × Int × Unit) → List Dyn → List (Option Lst) → Prop
  | 0, _, _, _, _, _ => False
  | n + 1, v5, x1, x0, ds, us => (if (Decidable.decide (v5 < (↑(List.length x0) : Int))) = true then ((0 ≤ v5) ∧ (v5 < (↑(List.length x0) : Int)) ∧ ((InR IntKind.i64 (x1 + 1)) ∧ ((0 ≤ v5) ∧ (v5 < (↑(List.length (List.set x0 (Int.toNat v5) (x1, Prod.snd (List.getD x0 (Int.toNat v5) (0, 0, 0, ()))))) : Int)) ∧ ((InR IntKind.i64 (x1 + 1 + 1)) ∧ ((0 ≤ v5) ∧ (v5 < (↑(List.length (List.set (List.set x0 (Int.toNat v5) (x1, Prod.snd (List.getD x0 (Int.toNat v5) (0, 0, 0, ())))) (Int.toNat v5) (Prod.fst (List.getD (List.set x0 (Int.toNat v5) (x1, Prod.snd (List.getD x0 (Int.toNat v5) (0, 0, 0, ())))) (Int.toNat v5) (0, 0, 0, ())), x1 + 1, Prod.snd (Prod.snd (List.getD (List.set x0 (Int.toNat v5) (x1, Prod.snd (List.getD x0 (Int.toNat v5) (0, 0, 0, ())))) (Int.toNat v5) (0, 0, 0, ())))))) : Int)) ∧ ((InR IntKind.i64 (x1 + 1 + 1 + 1)) ∧ ((InR IntKind.i64 (v5 + 1)) ∧ (R23_2 n (v5 + 1) (x1 + 1 + 1 + 1) (List.set (List.set (List.set x0 (Int.toNat v5) (x1, Prod.snd (List.getD x0 (Int.toNat v5) (0, 0, 0, ())))) (Int.toNat v5) (Prod.fst (List.getD (List.set x0 (Int.toNat v5) (x1, Prod.snd (List.getD x0 (Int.toNat v5) (0, 0, 0, ())))) (Int.toNat v5) (0, 0, 0, ())), x1 + 1, Prod.snd (Prod.snd (List.getD (List.set x0 (Int.toNat v5) (x1, Prod.snd (List.getD x0 (Int.toNat v5) (0, 0, 0, ())))) (Int.toNat v5) (0, 0, 0, ()))))) (Int.toNat v5) (Prod.fst (List.getD (List.set (List.set x0 (Int.toNat v5) (x1, Prod.snd (List.getD x0 (Int.toNat v5) (0, 0, 0, ())))) (Int.toNat v5) (Prod.fst (List.getD (List.set x0 (Int.toNat v5) (x1, Prod.snd (List.getD x0 (Int.toNat v5) (0, 0, 0, ())))) (Int.toNat v5) (0, 0, 0, ())), x1 + 1, Prod.snd (Prod.snd (List.getD (List.set x0 (Int.toNat v5) (x1, Prod.snd (List.getD x0 (Int.toNat v5) (0, 0, 0, ())))) (Int.toNat v5) (0, 0, 0, ()))))) (Int.toNat v5) (0, 0, 0, ())), Prod.fst (Prod.snd (List.getD (List.set (List.set x0 (Int.toNat v5) (x1, Prod.snd (List.getD x0 (Int.toNat v5) (0, 0, 0, ())))) (Int.toNat v5) (Prod.fst (List.getD (List.set x0 (Int.toNat v5) (x1, Prod.snd (List.getD x0 (Int.toNat v5) (0, 0, 0, ())))) (Int.toNat v5) (0, 0, 0, ())), x1 + 1, Prod.snd (Prod.snd (List.getD (List.set x0 (Int.toNat v5) (x1, Prod.snd (List.getD x0 (Int.toNat v5) (0, 0, 0, ())))) (Int.toNat v5) (0, 0, 0, ()))))) (Int.toNat v5) (0, 0, 0, ()))), x1 + 1 + 1, Prod.snd (Prod.snd (Prod.snd (List.getD (List.set (List.set x0 (Int.toNat v5) (x1, Prod.snd (List.getD x0 (Int.toNat v5) (0, 0, 0, ())))) (Int.toNat v5) (Prod.fst (List.getD (List.set x0 (Int.toNat v5) (x1, Prod.snd (List.getD x0 (Int.toNat v5) (0, 0, 0, ())))) (Int.toNat v5) (0, 0, 0, ())), x1 + 1, Prod.snd (Prod.snd (List.getD (List.set x0 (Int.toNat v5) (x1, Prod.snd (List.getD x0 (Int.toNat v5) (0, 0, 0, ())))) (Int.toNat v5) (0, 0, 0, ()))))) (Int.toNat v5) (0, 0, 0, ())))))) ds us)))))))) else (ds = [Dyn.mk (Ty.int IntKind.i64) x1] ∧ us = [Option.some (Lst.mk (Ty.cons (Ty.int IntKind.i64) (Ty.cons (Ty.int IntKind.i64) (Ty.cons (Ty.int IntKind.i64) Ty.unit))) x0)]))
end
theorem p23_0 (x0 : List (Int × Int × Int × Unit)) (x1 : Int) : Am.runN tab ext23 false 34 [] 2000 [0] [] [0, 1, 5] [0] [] [.code b23] (entE 0 0 sig23 (x0, x1, ())) (entL sig23 (x0, x1, ())) = some (cutAt b23 2, E23_2 (0) (x1) (x0), L23_2 (0) (x1) (x0), []) := by kernel_rfl
theorem p23_1 (v5 : Int) (x1 : Int) (x0 : List (Int × Int × Int × Unit)) : Am.runN tab ext23 false 34 [] 2000 [0] [] [0, 1, 5] [0] [true] (cutAt b23 2) (E23_2 v5 x1 x0) (L23_2 v5 x1 x0) = some (cutAt b23 2, E23_2 (v5 + 1) (x1 + 1 + 1 + 1) (List.set (List.set (List.set x0 (Int.toNat v5) (x1, Prod.snd (List.getD x0 (Int.toNat v5) (0, 0, 0, ())))) (Int.toNat v5) (Prod.fst (List.getD (List.set x0 (Int.toNat v5) (x1, Prod.snd (List.getD x0 (Int.toNat v5) (0, 0, 0, ())))) (Int.toNat v5) (0, 0, 0, ())), x1 + 1, Prod.snd (Prod.snd (List.getD (List.set x0 (Int.toNat v5) (x1, Prod.snd (List.getD x0 (Int.toNat v5) (0, 0, 0, ())))) (Int.toNat v5) (0, 0, 0, ()))))) (Int.toNat v5) (Prod.fst (List.getD (List.set (List.set x0 (Int.toNat v5) (x1, Prod.snd (List.getD x0 (Int.toNat v5) (0, 0, 0, ())))) (Int.toNat v5) (Prod.fst (List.getD (List.set x0 (Int.toNat v5) (x1, Prod.snd (List.getD x0 (Int.toNat v5) (0, 0, 0, ())))) (Int.toNat v5) (0, 0, 0, ())), x1 + 1, Prod.snd (Prod.snd (List.getD (List.set x0 (Int.toNat v5) (x1, Prod.snd (List.getD x0 (Int.toNat v5) (0, 0, 0, ())))) (Int.toNat v5) (0, 0, 0, ()))))) (Int.toNat v5) (0, 0, 0, ())), Prod.fst (Prod.snd (List.getD (List.set (List.set x0 (Int.toNat v5) (x1, Prod.snd (List.getD x0 (Int.toNat v5) (0, 0, 0, ())))) (Int.toNat v5) (Prod.fst (List.getD (List.set x0 (Int.toNat v5) (x1, Prod.snd (List.getD x0 (Int.toNat v5) (0, 0, 0, ())))) (Int.toNat v5) (0, 0, 0, ())), x1 + 1, Prod.snd (Prod.snd (List.getD (List.set x0 (Int.toNat v5) (x1, Prod.snd (List.getD x0 (Int.toNat v5) (0, 0, 0, ())))) (Int.toNat v5) (0, 0, 0, ()))))) (Int.toNat v5) (0, 0, 0, ()))), x1 + 1 + 1, Prod.snd (Prod.snd (Prod.snd (List.getD (List.set (List.set x0 (Int.toNat v5) (x1, Prod.snd (List.getD x0 (Int.toNat v5) (0, 0, 0, ())))) (Int.toNat v5) (Prod.fst (List.getD (List.set x0 (Int.toNat v5) (x1, Prod.snd (List.getD x0 (Int.toNat v5) (0, 0, 0, ())))) (Int.toNat v5) (0, 0, 0, ())), x1 + 1, Prod.snd (Prod.snd (List.getD (List.set x0 (Int.toNat v5) (x1, Prod.snd (List.getD x0 (Int.toNat v5) (0, 0, 0, ())))) (Int.toNat v5) (0, 0, 0, ()))))) (Int.toNat v5) (0, 0, 0, ())))))), L23_2 (v5 + 1) (x1 + 1 + 1 + 1) (List.set (List.set (List.set x0 (Int.toNat v5) (x1, Prod.snd (List.getD x0 (Int.toNat v5) (0, 0, 0, ())))) (Int.toNat v5) (Prod.fst (List.getD (List.set x0 (Int.toNat v5) (x1, Prod.snd (List.getD x0 (Int.toNat v5) (0, 0, 0, ())))) (Int.toNat v5) (0, 0, 0, ())), x1 + 1, Prod.snd (Prod.snd (List.getD (List.set x0 (Int.toNat v5) (x1, Prod.snd (List.getD x0 (Int.toNat v5) (0, 0, 0, ())))) (Int.toNat v5) (0, 0, 0, ()))))) (Int.toNat v5) (Prod.fst (List.getD (List.set (List.set x0 (Int.toNat v5) (x1, Prod.snd (List.getD x0 (Int.toNat v5) (0, 0, 0, ())))) (Int.toNat v5) (Prod.fst (List.getD (List.set x0 (Int.toNat v5) (x1, Prod.snd (List.getD x0 (Int.toNat v5) (0, 0, 0, ())))) (Int.toNat v5) (0, 0, 0, ())), x1 + 1, Prod.snd (Prod.snd (List.getD (List.set x0 (Int.toNat v5) (x1, Prod.snd (List.getD x0 (Int.toNat v5) (0, 0, 0, ())))) (Int.toNat v5) (0, 0, 0, ()))))) (Int.toNat v5) (0, 0, 0, ())), Prod.fst (Prod.snd (List.getD (List.set (List.set x0 (Int.toNat v5) (x1, Prod.snd (List.getD x0 (Int.toNat v5) (0, 0, 0, ())))) (Int.toNat v5) (Prod.fst (List.getD (List.set x0 (Int.toNat v5) (x1, Prod.snd (List.getD x0 (Int.toNat v5) (0, 0, 0, ())))) (Int.toNat v5) (0, 0, 0, ())), x1 + 1, Prod.snd (Prod.snd (List.getD (List.set x0 (Int.toNat v5) (x1, Prod.snd (List.getD x0 (Int.toNat v5) (0, 0, 0, ())))) (Int.toNat v5) (0, 0, 0, ()))))) (Int.toNat v5) (0, 0, 0, ()))), x1 + 1 + 1, Prod.snd (Prod.snd (Prod.snd (List.getD (List.set (List.set x0 (Int.toNat v5) (x1, Prod.snd (List.getD x0 (Int.toNat v5) (0, 0, 0, ())))) (Int.toNat v5) (Prod.fst (List.getD (List.set x0 (Int.toNat v5) (x1, Prod.snd (List.getD x0 (Int.toNat v5) (0, 0, 0, ())))) (Int.toNat v5) (0, 0, 0, ())), x1 + 1, Prod.snd (Prod.snd (List.getD (List.set x0 (Int.toNat v5) (x1, Prod.snd (List.getD x0 (Int.toNat v5) (0, 0, 0, ())))) (Int.toNat v5) (0, 0, 0, ()))))) (Int.toNat v5) (0, 0, 0, ())))))), [Decidable.decide (v5 < (↑(List.length x0) : Int)) = Bool.true, 0 ≤ v5, v5 < (↑(List.length x0) : Int), InR IntKind.i64 (x1 + 1), 0 ≤ v5, v5 < (↑(List.length (List.set x0 (Int.toNat v5) (x1, Prod.snd (List.getD x0 (Int.toNat v5) (0, 0, 0, ()))))) : Int), InR IntKind.i64 (x1 + 1 + 1), 0 ≤ v5, v5 < (↑(List.length (List.set (List.set x0 (Int.toNat v5) (x1, Prod.snd (List.getD x0 (Int.toNat v5) (0, 0, 0, ())))) (Int.toNat v5) (Prod.fst (List.getD (List.set x0 (Int.toNat v5) (x1, Prod.snd (List.getD x0 (Int.toNat v5) (0, 0, 0, ())))) (Int.toNat v5) (0, 0, 0, ())), x1 + 1, Prod.snd (Prod.snd (List.getD (List.set x0 (Int.toNat v5) (x1, Prod.snd (List.getD x0 (Int.toNat v5) (0, 0, 0, ())))) (Int.toNat v5) (0, 0, 0, ())))))) : Int), InR IntKind.i64 (x1 + 1 + 1 + 1), InR IntKind.i64 (v5 + 1)]) := by kernel_rfl
theorem p23_2 (v5 : Int) (x1 : Int) (x0 : List (Int × Int × Int × Unit)) : runF tab ext23 false 34 [] 2000 [0] oks23 kds23 tys23 Try.f23.results [false] (cutAt b23 2) (E23_2 v5 x1 x0) (L23_2 v5 x1 x0) = some ([Dyn.mk (Ty.int IntKind.i64) x1], [Option.some (Lst.mk (Ty.cons (Ty.int IntKind.i64) (Ty.cons (Ty.int IntKind.i64) (Ty.cons (Ty.int IntKind.i64) Ty.unit))) x0)], [Decidable.decide (v5 < (↑(List.length x0) : Int)) = Bool.false]) := by kernel_rfl
theorem snd23 : ∀ n, (∀ (x0 : List (Int × Int × Int × Unit)) (x1 : Int) ds us, R23 n x0 x1 ds us → ∀ K q, AtV Try.prog 23 (PostR kds23 oks23 ds us [0] q K) 34 K q [0] [.code b23] (entE 0 0 sig23 (x0, x1, ())) (entL sig23 (x0, x1, ()))) ∧ (∀ (v5 : Int) (x1 : Int) (x0 : List (Int × Int × Int × Unit)) ds us, R23_2 n v5 x1 x0 ds us → ∀ K q, AtV Try.prog 23 (PostR kds23 oks23 ds us [0] q K) 34 K q [0] (cutAt b23 2) (E23_2 v5 x1 x0) (L23_2 v5 x1 x0)) := by
  intro n
  induction n with
  | zero => exact ⟨fun _ _ _ _ h => by simp only [R23] at h, fun _ _ _ _ _ h => by simp only [R23_2] at h⟩
  | succ n ih =>
  obtain ⟨ih, ih2⟩ := ih
  refine ⟨?_, ?_⟩
  · intro x0 x1 ds us h K q
    rw [R23] at h
    exact AtV.runN tabOk ext23Ok mixed (p23_0 x0 x1) trivial (ih2 _ _ _ _ _ h K q)

  · intro v5 x1 x0 ds us h K q
    rw [R23_2] at h
    by_cases b0 : (Decidable.decide (v5 < (↑(List.length x0) : Int))) = true
    · rw [if_pos b0] at h
      obtain ⟨s0, s1, h⟩ := h
      obtain ⟨s2, h⟩ := h
      obtain ⟨s3, s4, h⟩ := h
      obtain ⟨s5, h⟩ := h
      obtain ⟨s6, s7, h⟩ := h
      obtain ⟨s8, h⟩ := h
      obtain ⟨s9, h⟩ := h
      exact AtV.runN tabOk ext23Ok mixed (p23_1 v5 x1 x0) ⟨b0, s0, s1, s2, s3, s4, s5, s6, s7, s8, s9, trivial⟩ (ih2 _ _ _ _ _ h K q)
    · rw [if_neg b0] at h
      replace b0 := Bool.eq_false_iff.2 b0
      obtain ⟨h, h'⟩ := h; subst h; subst h'
      exact AtV.fin Try.func23 tabOk ext23Ok mixed (p23_2 v5 x1 x0) ⟨b0, trivial⟩



def M23 (x1 : Int) (n : Nat) : List (Int × Int × Int × Unit) := (List.range n).map fun (j : Nat) => ((x1 + 3 * (j : Int)), (x1 + 3 * (j : Int) + 1), (x1 + 3 * (j : Int) + 1 + 1), ())

theorem M23_len (x1 : Int) (n : Nat) : (M23 x1 n).length = n := by simp [M23]

theorem M23_succ (x1 : Int) (n : Nat) : M23 x1 (n + 1) = M23 x1 n ++ [((x1 + 3 * (n : Int)), (x1 + 3 * (n : Int) + 1), (x1 + 3 * (n : Int) + 1 + 1), ())] := by
  simp [M23, List.range_succ]

theorem run23 (x0 : List (Int × Int × Int × Unit)) (x1 : Int) (hm : x0.length ≤ maxLen) (h0 : 0 ≤ x1) (h1 : x1 + 3 * x0.length ≤ 9223372036854775807) : ∀ (k i : Nat), i + k = x0.length →
    R23_2 (k + 1) (i : Int) (x1 + 3 * (i : Int)) (M23 x1 i ++ x0.drop i) [⟨.int .i64, x1 + 3 * (x0.length : Int)⟩] [some ⟨(.cons (.int .i64) (.cons (.int .i64) (.cons (.int .i64) .unit))), M23 x1 x0.length⟩] := by
  intro k
  induction k with
  | zero =>
    intro i hi
    have hl : (M23 x1 i ++ x0.drop i).length = x0.length := by simp [M23_len]; omega
    rw [R23_2, if_neg (by rw [hl]; simp; omega), drop_end x0 i (by omega), List.append_nil]
    have : i = x0.length := by omega
    subst this
    exact ⟨rfl, rfl⟩
  | succ k ih =>
    intro i hi
    have hl : (M23 x1 i ++ x0.drop i).length = x0.length := by simp [M23_len]; omega
    have hA := M23_len x1 i
    rw [R23_2, if_pos (by rw [hl]; simp; omega)]
    rw [drop_get x0 i ((0 : Int), (0 : Int), (0 : Int), ()) (by omega)] at hl ⊢
    simp only [Int.toNat_natCast, set_mid _ _ _ _ i hA, get_mid _ _ _ _ i hA]
    have hl' : ∀ y : (Int × Int × Int × Unit), ((M23 x1 i ++ y :: x0.drop (i + 1)).length : Int) = x0.length := fun y => by rw [← hl]; simp
    simp only [hl']
    refine ⟨by omega, by omega, by rw [i64_iff]; omega, by omega, by omega, by rw [i64_iff]; omega, by omega, by omega, by rw [i64_iff]; omega, inR_up hm (by omega), ?_⟩
    have hx : x1 + 3 * (i : Int) + 1 + 1 + 1 = x1 + 3 * ((i + 1 : Nat) : Int) := by omega
    have := ih (i + 1) (by omega)
    rw [M23_succ, List.append_assoc] at this
    rw [hx]
    simpa using this

def P23 (x0 : List (Int × Int × Int × Unit)) (x1 : Int) : Prop := 0 ≤ x1 ∧ x1 + 3 * x0.length ≤ 9223372036854775807
def g23_0 (x0 : List (Int × Int × Int × Unit)) (x1 : Int) : Int := x1 + 3 * (x0.length : Int)
def u23_0 (x0 : List (Int × Int × Int × Unit)) (x1 : Int) : List (Int × Int × Int × Unit) := M23 x1 x0.length

theorem top23 (x0 : List (Int × Int × Int × Unit)) (x1 : Int) (hm : x0.length ≤ maxLen) (h : P23 x0 x1) : R23 (x0.length + 1 + 1) x0 x1 [⟨.int .i64, g23_0 x0 x1⟩] [some ⟨(.cons (.int .i64) (.cons (.int .i64) (.cons (.int .i64) .unit))), u23_0 x0 x1⟩] := by
  rw [R23]
  have := run23 x0 x1 hm h.1 h.2 x0.length 0 (by omega)
  simpa [M23, g23_0, u23_0] using this

def S23 : Am.Spec := { sig := sig23, pre := fun ⟨x0, x1, _⟩ => P23 x0 x1, upd := fun ⟨x0, x1, _⟩ => [some ⟨(.cons (.int .i64) (.cons (.int .i64) (.cons (.int .i64) .unit))), u23_0 x0 x1⟩], res := fun ⟨x0, x1, _⟩ => [⟨.int .i64, g23_0 x0 x1⟩] }
theorem con23 : Contract Try.prog 23 S23 := contract_of Try.func23 hb23 (Nat.le_of_ble_eq_true (by kernel_rfl)) (fun ⟨x0, x1, _⟩ h hwf K q =>
  (snd23 _).1 x0 x1 _ _ (top23 x0 x1 hwf.1.1 h) K q)

end Go.Proofs.Ytleifkpekoinlaa

/- Function 31 (laws.heldHourS): its runs between cut points. Written by a program of this repo (gen). -/
set_option linter.unusedVariables false
set_option linter.unusedSimpArgs false
set_option maxRecDepth 100000
namespace Go.Proofs.Ytleifkpekoinlaa
open Go Go.Am Go.Proofs
def ext31 : Ext := []
theorem ext31Ok : ExtOk Try.prog ext31 := trivial
/-! Function 31. -/
noncomputable def b31 : Code := bodyOf Try.f31
theorem hb31 : Try.f31.body = some b31 := by kernel_rfl
def sig31 : List AT := [AT.v (Ty.sl (Ty.cons (Ty.int IntKind.i64) (Ty.cons (Ty.int IntKind.i64) (Ty.cons (Ty.int IntKind.i64) Ty.unit)))), AT.v (Ty.int IntKind.i64)]
def tys31 : List Ty := [Ty.int IntKind.i64]
def kds31 : List RK := []
def oks31 : List AT := owns sig31
def E31_2 (v5 : Int) (x0 : List (Int × Int × Int × Unit)) (x1 : Int) : Env := [(0, PV.a (Atom.sl (Ty.cons (Ty.int IntKind.i64) (Ty.cons (Ty.int IntKind.i64) (Ty.cons (Ty.int IntKind.i64) Ty.unit))) x0)), (1, PV.a (Atom.val (Value.int IntKind.i64 x1))), (5, PV.a (Atom.val (Value.int IntKind.i64 v5)))]
def L31_2 (v5 : Int) (x0 : List (Int × Int × Int × Unit)) (x1 : Int) : Heap := []
mutual
def R31 : Nat → List (Int × Int × Int × Unit) → Int → List Dyn → Prop
  | 0, _, _, _ => False
  | n + 1, x0, x1, ds => (R31_2 n (0) (x0) (x1) ds)
def R31_2 : Nat → Int → List (Int × Int × Int × Unit) → Int → List Dyn → Prop
  | 0, _, _, _, _ => False
  | n + 1, v5, x0, x1, ds => (if (Decidable.decide (v5 < (↑(List.length x0) : Int))) = true then ((0 ≤ v5) ∧ (v5 < (↑(List.length x0) : Int)) ∧ (if (Prod.fst (List.getD x0 (Int.toNat v5) (0, 0, 0, ())) != x1) = true then (ds = [Dyn.mk (Ty.int IntKind.i64) (-1)]) else ((InR IntKind.i64 (x1 + 1)) ∧ ((0 ≤ v5) ∧ (v5 < (↑(List.length x0) : Int)) ∧ (if (Prod.fst (Prod.snd (List.getD x0 (Int.toNat v5) (0, 0, 0, ()))) != x1 + 1) = true then (ds = [Dyn.mk (Ty.int IntKind.i64) (-1)]) else ((InR IntKind.i64 (x1 + 1 + 1)) ∧ ((0 ≤ v5) ∧ (v5 < (↑(List.length x0) : Int)) ∧ (if (Prod.fst (Prod.snd (Prod.snd (List.getD x0 (Int.toNat v5) (0, 0, 0, ())))) != x1 + 1 + 1) = true then (ds = [Dyn.mk (Ty.int IntKind.i64) (-1)]) else ((InR IntKind.i64 (x1 + 1 + 1 + 1)) ∧ ((InR IntKind.i64 (v5 + 1)) ∧ (R31_2 n (v5 + 1) (x0) (x1 + 1 + 1 + 1) ds))))))))))) else (ds = [Dyn.mk (Ty.int IntKind.i64) x1]))
end
theorem p31_0 (x0 : List (Int × Int × Int × Unit)) (x1 : Int) : Am.runN tab ext31 false 40 [] 2000 [] [] [0, 1, 5] [] [] [.code b31] (entE 0 0 sig31 (x0, x1, ())) (entL sig31 (x0, x1, ())) = some (cutAt b31 2, E31_2 (0) (x0) (x1), L31_2 (0) (x0) (x1), []) := by kernel_rfl
theorem p31_1 (v5 : Int) (x0 : List (Int × Int × Int × Unit)) (x1 : Int) : runF tab ext31 false 40 [] 2000 [] oks31 kds31 tys31 Try.f31.results [true, true] (cutAt b31 2) (E31_2 v5 x0 x1) (L31_2 v5 x0 x1) = some ([Dyn.mk (Ty.int IntKind.i64) (-1)], [], [Decidable.decide (v5 < (↑(List.length x0) : Int)) = Bool.true, 0 ≤ v5, v5 < (↑(List.length x0) : Int), (Prod.fst (List.getD x0 (Int.toNat v5) (0, 0, 0, ())) != x1) = Bool.true]) := by kernel_rfl
theorem p31_2 (v5 : Int) (x0 : List (Int × Int × Int × Unit)) (x1 : Int) : runF tab ext31 false 40 [] 2000 [] oks31 kds31 tys31 Try.f31.results [true, false, true] (cutAt b31 2) (E31_2 v5 x0 x1) (L31_2 v5 x0 x1) = some ([Dyn.mk (Ty.int IntKind.i64) (-1)], [], [Decidable.decide (v5 < (↑(List.length x0) : Int)) = Bool.true, 0 ≤ v5, v5 < (↑(List.length x0) : Int), (Prod.fst (List.getD x0 (Int.toNat v5) (0, 0, 0, ())) != x1) = Bool.false, InR IntKind.i64 (x1 + 1), 0 ≤ v5, v5 < (↑(List.length x0) : Int), (Prod.fst (Prod.snd (List.getD x0 (Int.toNat v5) (0, 0, 0, ()))) != x1 + 1) = Bool.true]) := by kernel_rfl
theorem p31_3 (v5 : Int) (x0 : List (Int × Int × Int × Unit)) (x1 : Int) : runF tab ext31 false 40 [] 2000 [] oks31 kds31 tys31 Try.f31.results [true, false, false, true] (cutAt b31 2) (E31_2 v5 x0 x1) (L31_2 v5 x0 x1) = some ([Dyn.mk (Ty.int IntKind.i64) (-1)], [], [Decidable.decide (v5 < (↑(List.length x0) : Int)) = Bool.true, 0 ≤ v5, v5 < (↑(List.length x0) : Int), (Prod.fst (List.getD x0 (Int.toNat v5) (0, 0, 0, ())) != x1) = Bool.false, InR IntKind.i64 (x1 + 1), 0 ≤ v5, v5 < (↑(List.length x0) : Int), (Prod.fst (Prod.snd (List.getD x0 (Int.toNat v5) (0, 0, 0, ()))) != x1 + 1) = Bool.false, InR IntKind.i64 (x1 + 1 + 1), 0 ≤ v5, v5 < (↑(List.length x0) : Int), (Prod.fst (Prod.snd (Prod.snd (List.getD x0 (Int.toNat v5) (0, 0, 0, ())))) != x1 + 1 + 1) = Bool.true]) := by kernel_rfl
theorem p31_4 (v5 : Int) (x0 : List (Int × Int × Int × Unit)) (x1 : Int) : Am.runN tab ext31 false 40 [] 2000 [] [] [0, 1, 5] [] [true, false, false, false] (cutAt b31 2) (E31_2 v5 x0 x1) (L31_2 v5 x0 x1) = some (cutAt b31 2, E31_2 (v5 + 1) (x0) (x1 + 1 + 1 + 1), L31_2 (v5 + 1) (x0) (x1 + 1 + 1 + 1), [Decidable.decide (v5 < (↑(List.length x0) : Int)) = Bool.true, 0 ≤ v5, v5 < (↑(List.length x0) : Int), (Prod.fst (List.getD x0 (Int.toNat v5) (0, 0, 0, ())) != x1) = Bool.false, InR IntKind.i64 (x1 + 1), 0 ≤ v5, v5 < (↑(List.length x0) : Int), (Prod.fst (Prod.snd (List.getD x0 (Int.toNat v5) (0, 0, 0, ()))) != x1 + 1) = Bool.false, InR IntKind.i64 (x1 + 1 + 1), 0 ≤ v5, v5 < (↑(List.length x0) : Int), (Prod.fst (Prod.snd (Prod.snd (List.getD x0 (Int.toNat v5) (0, 0, 0, ())))) != x1 + 1 + 1) = Bool.false, InR IntKind.i64 (x1 + 1 + 1 + 1), InR IntKind.i64 (v5 + 1)]) := by kernel_rfl
theorem p31_5 (v5 : Int) (x0 : List (Int × Int × Int × Unit)) (x1 : Int) : runF tab ext31 false 40 [] 2000 [] oks31 kds31 tys31 Try.f31.results [false] (cutAt b31 2) (E31_2 v5 x0 x1) (L31_2 v5 x0 x1) = some ([Dyn.mk (Ty.int IntKind.i64) x1], [], [Decidable.decide (v5 < (↑(List.length x0) : Int)) = Bool.false]) := by kernel_rfl
theorem snd31 : ∀ n, (∀ (x0 : List (Int × Int × Int × Unit)) (x1 : Int) ds, R31 n x0 x1 ds → ∀ K q, AtV Try.prog 31 (PostR kds31 oks31 ds [] [] q K) 40 K q [] [.code b31] (entE 0 0 sig31 (x0, x1, ())) (entL sig31 (x0, x1, ()))) ∧ (∀ (v5 : Int) (x0 : List (Int × Int × Int × Unit)) (x1 : Int) ds, R31_2 n v5 x0 x1 ds → ∀ K q, AtV Try.prog 31 (PostR kds31 oks31 ds [] [] q K) 40 K q [] (cutAt b31 2) (E31_2 v5 x0 x1) (L31_2 v5 x0 x1)) := by
  intro n
  induction n with
  | zero => exact ⟨fun _ _ _ h => by simp only [R31] at h, fun _ _ _ _ h => by simp only [R31_2] at h⟩
  | succ n ih =>
  obtain ⟨ih, ih2⟩ := ih
  refine ⟨?_, ?_⟩
  · intro x0 x1 ds h K q
    rw [R31] at h
    exact AtV.runN tabOk ext31Ok mixed (p31_0 x0 x1) trivial (ih2 _ _ _ _ h K q)

  · intro v5 x0 x1 ds h K q
    rw [R31_2] at h
    by_cases b0 : (Decidable.decide (v5 < (↑(List.length x0) : Int))) = true
    · rw [if_pos b0] at h
      obtain ⟨s0, s1, h⟩ := h
      by_cases b1 : (Prod.fst (List.getD x0 (Int.toNat v5) (0, 0, 0, ())) != x1) = true
      · rw [if_pos b1] at h
        subst h
        exact AtV.fin Try.func31 tabOk ext31Ok mixed (p31_1 v5 x0 x1) ⟨b0, s0, s1, b1, trivial⟩
      · rw [if_neg b1] at h
        replace b1 := Bool.eq_false_iff.2 b1
        obtain ⟨s2, h⟩ := h
        obtain ⟨s3, s4, h⟩ := h
        by_cases b2 : (Prod.fst (Prod.snd (List.getD x0 (Int.toNat v5) (0, 0, 0, ()))) != x1 + 1) = true
        · rw [if_pos b2] at h
          subst h
          exact AtV.fin Try.func31 tabOk ext31Ok mixed (p31_2 v5 x0 x1) ⟨b0, s0, s1, b1, s2, s3, s4, b2, trivial⟩
        · rw [if_neg b2] at h
          replace b2 := Bool.eq_false_iff.2 b2
          obtain ⟨s5, h⟩ := h
          obtain ⟨s6, s7, h⟩ := h
          by_cases b3 : (Prod.fst (Prod.snd (Prod.snd (List.getD x0 (Int.toNat v5) (0, 0, 0, ())))) != x1 + 1 + 1) = true
          · rw [if_pos b3] at h
            subst h
            exact AtV.fin Try.func31 tabOk ext31Ok mixed (p31_3 v5 x0 x1) ⟨b0, s0, s1, b1, s2, s3, s4, b2, s5, s6, s7, b3, trivial⟩
          · rw [if_neg b3] at h
            replace b3 := Bool.eq_false_iff.2 b3
            obtain ⟨s8, h⟩ := h
            obtain ⟨s9, h⟩ := h
            exact AtV.runN tabOk ext31Ok mixed (p31_4 v5 x0 x1) ⟨b0, s0, s1, b1, s2, s3, s4, b2, s5, s6, s7, b3, s8, s9, trivial⟩ (ih2 _ _ _ _ h K q)
    · rw [if_neg b0] at h
      replace b0 := Bool.eq_false_iff.2 b0
      subst h
      exact AtV.fin Try.func31 tabOk ext31Ok mixed (p31_5 v5 x0 x1) ⟨b0, trivial⟩



theorem run31 (x0 : List (Int × Int × Int × Unit)) (x1 : Int) (hm : x0.length ≤ maxLen) (h0 : 0 ≤ x1) (h1 : x1 + 3 * x0.length ≤ 9223372036854775807) (he : ∀ i : Nat, i < x0.length → x0.getD i ((0 : Int), (0 : Int), (0 : Int), ()) = ((x1 + 3 * (i : Int)), (x1 + 3 * (i : Int) + 1), (x1 + 3 * (i : Int) + 1 + 1), ())) : ∀ (k i : Nat), i + k = x0.length →
    R31_2 (k + 1) (i : Int) x0 (x1 + 3 * (i : Int)) [⟨.int .i64, x1 + 3 * (x0.length : Int)⟩] := by
  intro k
  induction k with
  | zero =>
    intro i hi
    rw [R31_2, if_neg (by simp; omega)]
    have : i = x0.length := by omega
    subst this
    rfl
  | succ k ih =>
    intro i hi
    rw [R31_2, if_pos (by simp; omega)]
    simp only [Int.toNat_natCast, he i (by omega)]
    have hb : ∀ y : ByteArray, (!(ByteArray.toList y == ByteArray.toList y)) = true → False := fun y h => by rw [(bytes_eq y y).2 rfl] at h; cases h
    refine ⟨by omega, by omega, ?_⟩
    rw [if_neg (by simp only [bne_self_eq_false, Bool.false_eq_true, not_false_eq_true])]
    refine ⟨by rw [i64_iff]; omega, by omega, by omega, ?_⟩
    rw [if_neg (by simp only [bne_self_eq_false, Bool.false_eq_true, not_false_eq_true])]
    refine ⟨by rw [i64_iff]; omega, by omega, by omega, ?_⟩
    rw [if_neg (by simp only [bne_self_eq_false, Bool.false_eq_true, not_false_eq_true])]
    refine ⟨by rw [i64_iff]; omega, inR_up hm (by omega), ?_⟩
    have hx : x1 + 3 * (i : Int) + 1 + 1 + 1 = x1 + 3 * ((i + 1 : Nat) : Int) := by omega
    rw [hx]
    exact ih (i + 1) (by omega)

def P31 (x0 : List (Int × Int × Int × Unit)) (x1 : Int) : Prop := (0 ≤ x1 ∧ x1 + 3 * x0.length ≤ 9223372036854775807) ∧ ∀ i : Nat, i < x0.length → x0.getD i ((0 : Int), (0 : Int), (0 : Int), ()) = ((x1 + 3 * (i : Int)), (x1 + 3 * (i : Int) + 1), (x1 + 3 * (i : Int) + 1 + 1), ())
def g31_0 (x0 : List (Int × Int × Int × Unit)) (x1 : Int) : Int := x1 + 3 * (x0.length : Int)

theorem top31 (x0 : List (Int × Int × Int × Unit)) (x1 : Int) (hm : x0.length ≤ maxLen) (h : P31 x0 x1) : R31 (x0.length + 1 + 1) x0 x1 [⟨.int .i64, g31_0 x0 x1⟩] := by
  rw [R31]
  have := run31 x0 x1 hm h.1.1 h.1.2 h.2 x0.length 0 (by omega)
  simpa [g31_0] using this

def S31 : Am.Spec := { sig := sig31, pre := fun ⟨x0, x1, _⟩ => P31 x0 x1, res := fun ⟨x0, x1, _⟩ => [⟨.int .i64, g31_0 x0 x1⟩] }
theorem con31 : Contract Try.prog 31 S31 := contract_of Try.func31 hb31 (Nat.le_of_ble_eq_true (by kernel_rfl)) (fun ⟨x0, x1, _⟩ h hwf K q =>
  (snd31 _).1 x0 x1 _ (top31 x0 x1 hwf.1.1 h) K q)

end Go.Proofs.Ytleifkpekoinlaa

/- Function 24 (laws.markLimitS): its runs between cut points. Written by a program of this repo (gen). -/
set_option linter.unusedVariables false
set_option linter.unusedSimpArgs false
set_option maxRecDepth 100000
namespace Go.Proofs.Ytleifkpekoinlaa
open Go Go.Am Go.Proofs
def ext24 : Ext := []
theorem ext24Ok : ExtOk Try.prog ext24 := trivial
/-! Function 24. -/
noncomputable def b24 : Code := bodyOf Try.f24
theorem hb24 : Try.f24.body = some b24 := by kernel_rfl
def sig24 : List AT := [AT.own (Ty.cons (Ty.int IntKind.i64) (Ty.cons (Ty.int IntKind.i64) (Ty.cons (Ty.int IntKind.i64) Ty.unit))), AT.v (Ty.int IntKind.i64)]
def tys24 : List Ty := [Ty.int IntKind.i64]
def kds24 : List RK := []
def oks24 : List AT := owns sig24
def E24_2 (v5 : Int) (x1 : Int) (x0 : List (Int × Int × Int × Unit)) : Env := [(0, PV.a (Atom.osl 0 Option.none)), (1, PV.a (Atom.val (Value.int IntKind.i64 x1))), (5, PV.a (Atom.val (Value.int IntKind.i64 v5)))]
def L24_2 (v5 : Int) (x1 : Int) (x0 : List (Int × Int × Int × Unit)) : Heap := [Option.some (Arr.mk (Ty.cons (Ty.int IntKind.i64) (Ty.cons (Ty.int IntKind.i64) (Ty.cons (Ty.int IntKind.i64) Ty.unit))) x0 Bool.false Option.none Option.none)]
mutual
def R24 : Nat → List (Int × Int × Int × Unit) → Int → List Dyn → List (Option Lst) → Prop
  | 0, _, _, _, _ => False
  | n + 1, x0, x1, ds, us => (R24_2 n (0) (x1) (x0) ds us)
def R24_2 : Nat → Int → Int → List (Int × Int × Int × Unit) → List Dyn → List (Option Lst) → Prop
  | 0, _, _, _, _, _ => False
  | n + 1, v5, x1, x0, ds, us => (if (Decidable.decide (v5 < (↑(List.length x0) : Int))) = true then ((0 ≤ v5) ∧ (v5 < (↑(List.length x0) : Int)) ∧ ((InR IntKind.i64 (x1 + 1)) ∧ ((0 ≤ v5) ∧ (v5 < (↑(List.length (List.set x0 (Int.toNat v5) (x1, Prod.snd (List.getD x0 (Int.toNat v5) (0, 0, 0, ()))))) : Int)) ∧ ((InR IntKind.i64 (x1 + 1 + 1)) ∧ ((0 ≤ v5) ∧ (v5 < (↑(List.length (List.set (List.set x0 (Int.toNat v5) (x1, Prod.snd (List.getD x0 (Int.toNat v5) (0, 0, 0, ())))) (Int.toNat v5) (Prod.fst (List.getD (List.set x0 (Int.toNat v5) (x1, Prod.snd (List.getD x0 (Int.toNat v5) (0, 0, 0, ())))) (Int.toNat v5) (0, 0, 0, ())), x1 + 1, Prod.snd (Prod.snd (List.getD (List.set x0 (Int.toNat v5) (x1, Prod.snd (List.getD x0 (Int.toNat v5) (0, 0, 0, ())))) (Int.toNat v5) (0, 0, 0, ())))))) : Int)) ∧ ((InR IntKind.i64 (x1 + 1 + 1 + 1)) ∧ ((InR IntKind.i64 (v5 + 1)) ∧ (R24_2 n (v5 + 1) (x1 + 1 + 1 + 1) (List.set (List.set (List.set x0 (Int.toNat v5) (x1, Prod.snd (List.getD x0 (Int.toNat v5) (0, 0, 0, ())))) (Int.toNat v5) (Prod.fst (List.getD (List.set x0 (Int.toNat v5) (x1, Prod.snd (List.getD x0 (Int.toNat v5) (0, 0, 0, ())))) (Int.toNat v5) (0, 0, 0, ())), x1 + 1, Prod.snd (Prod.snd (List.getD (List.set x0 (Int.toNat v5) (x1, Prod.snd (List.getD x0 (Int.toNat v5) (0, 0, 0, ())))) (Int.toNat v5) (0, 0, 0, ()))))) (Int.toNat v5) (Prod.fst (List.getD (List.set (List.set x0 (Int.toNat v5) (x1, Prod.snd (List.getD x0 (Int.toNat v5) (0, 0, 0, ())))) (Int.toNat v5) (Prod.fst (List.getD (List.set x0 (Int.toNat v5) (x1, Prod.snd (List.getD x0 (Int.toNat v5) (0, 0, 0, ())))) (Int.toNat v5) (0, 0, 0, ())), x1 + 1, Prod.snd (Prod.snd (List.getD (List.set x0 (Int.toNat v5) (x1, Prod.snd (List.getD x0 (Int.toNat v5) (0, 0, 0, ())))) (Int.toNat v5) (0, 0, 0, ()))))) (Int.toNat v5) (0, 0, 0, ())), Prod.fst (Prod.snd (List.getD (List.set (List.set x0 (Int.toNat v5) (x1, Prod.snd (List.getD x0 (Int.toNat v5) (0, 0, 0, ())))) (Int.toNat v5) (Prod.fst (List.getD (List.set x0 (Int.toNat v5) (x1, Prod.snd (List.getD x0 (Int.toNat v5) (0, 0, 0, ())))) (Int.toNat v5) (0, 0, 0, ())), x1 + 1, Prod.snd (Prod.snd (List.getD (List.set x0 (Int.toNat v5) (x1, Prod.snd (List.getD x0 (Int.toNat v5) (0, 0, 0, ())))) (Int.toNat v5) (0, 0, 0, ()))))) (Int.toNat v5) (0, 0, 0, ()))), x1 + 1 + 1, Prod.snd (Prod.snd (Prod.snd (List.getD (List.set (List.set x0 (Int.toNat v5) (x1, Prod.snd (List.getD x0 (Int.toNat v5) (0, 0, 0, ())))) (Int.toNat v5) (Prod.fst (List.getD (List.set x0 (Int.toNat v5) (x1, Prod.snd (List.getD x0 (Int.toNat v5) (0, 0, 0, ())))) (Int.toNat v5) (0, 0, 0, ())), x1 + 1, Prod.snd (Prod.snd (List.getD (List.set x0 (Int.toNat v5) (x1, Prod.snd (List.getD x0 (Int.toNat v5) (0, 0, 0, ())))) (Int.toNat v5) (0, 0, 0, ()))))) (Int.toNat v5) (0, 0, 0, ())))))) ds us)))))))) else (ds = [Dyn.mk (Ty.int IntKind.i64) x1] ∧ us = [Option.some (Lst.mk (Ty.cons (Ty.int IntKind.i64) (Ty.cons (Ty.int IntKind.i64) (Ty.cons (Ty.int IntKind.i64) Ty.unit))) x0)]))
end
theorem p24_0 (x0 : List (Int × Int × Int × Unit)) (x1 : Int) : Am.runN tab ext24 false 34 [] 2000 [0] [] [0, 1, 5] [0] [] [.code b24] (entE 0 0 sig24 (x0, x1, ())) (entL sig24 (x0, x1, ())) = some (cutAt b24 2, E24_2 (0) (x1) (x0), L24_2 (0) (x1) (x0), []) := by kernel_rfl
theorem p24_1 (v5 : Int) (x1 : Int) (x0 : List (Int × Int × Int × Unit)) : Am.runN tab ext24 false 34 [] 2000 [0] [] [0, 1, 5] [0] [true] (cutAt b24 2) (E24_2 v5 x1 x0) (L24_2 v5 x1 x0) = some (cutAt b24 2, E24_2 (v5 + 1) (x1 + 1 + 1 + 1) (List.set (List.set (List.set x0 (Int.toNat v5) (x1, Prod.snd (List.getD x0 (Int.toNat v5) (0, 0, 0, ())))) (Int.toNat v5) (Prod.fst (List.getD (List.set x0 (Int.toNat v5) (x1, Prod.snd (List.getD x0 (Int.toNat v5) (0, 0, 0, ())))) (Int.toNat v5) (0, 0, 0, ())), x1 + 1, Prod.snd (Prod.snd (List.getD (List.set x0 (Int.toNat v5) (x1, Prod.snd (List.getD x0 (Int.toNat v5) (0, 0, 0, ())))) (Int.toNat v5) (0, 0, 0, ()))))) (Int.toNat v5) (Prod.fst (List.getD (List.set (List.set x0 (Int.toNat v5) (x1, Prod.snd (List.getD x0 (Int.toNat v5) (0, 0, 0, ())))) (Int.toNat v5) (Prod.fst (List.getD (List.set x0 (Int.toNat v5) (x1, Prod.snd (List.getD x0 (Int.toNat v5) (0, 0, 0, ())))) (Int.toNat v5) (0, 0, 0, ())), x1 + 1, Prod.snd (Prod.snd (List.getD (List.set x0 (Int.toNat v5) (x1, Prod.snd (List.getD x0 (Int.toNat v5) (0, 0, 0, ())))) (Int.toNat v5) (0, 0, 0, ()))))) (Int.toNat v5) (0, 0, 0, ())), Prod.fst (Prod.snd (List.getD (List.set (List.set x0 (Int.toNat v5) (x1, Prod.snd (List.getD x0 (Int.toNat v5) (0, 0, 0, ())))) (Int.toNat v5) (Prod.fst (List.getD (List.set x0 (Int.toNat v5) (x1, Prod.snd (List.getD x0 (Int.toNat v5) (0, 0, 0, ())))) (Int.toNat v5) (0, 0, 0, ())), x1 + 1, Prod.snd (Prod.snd (List.getD (List.set x0 (Int.toNat v5) (x1, Prod.snd (List.getD x0 (Int.toNat v5) (0, 0, 0, ())))) (Int.toNat v5) (0, 0, 0, ()))))) (Int.toNat v5) (0, 0, 0, ()))), x1 + 1 + 1, Prod.snd (Prod.snd (Prod.snd (List.getD (List.set (List.set x0 (Int.toNat v5) (x1, Prod.snd (List.getD x0 (Int.toNat v5) (0, 0, 0, ())))) (Int.toNat v5) (Prod.fst (List.getD (List.set x0 (Int.toNat v5) (x1, Prod.snd (List.getD x0 (Int.toNat v5) (0, 0, 0, ())))) (Int.toNat v5) (0, 0, 0, ())), x1 + 1, Prod.snd (Prod.snd (List.getD (List.set x0 (Int.toNat v5) (x1, Prod.snd (List.getD x0 (Int.toNat v5) (0, 0, 0, ())))) (Int.toNat v5) (0, 0, 0, ()))))) (Int.toNat v5) (0, 0, 0, ())))))), L24_2 (v5 + 1) (x1 + 1 + 1 + 1) (List.set (List.set (List.set x0 (Int.toNat v5) (x1, Prod.snd (List.getD x0 (Int.toNat v5) (0, 0, 0, ())))) (Int.toNat v5) (Prod.fst (List.getD (List.set x0 (Int.toNat v5) (x1, Prod.snd (List.getD x0 (Int.toNat v5) (0, 0, 0, ())))) (Int.toNat v5) (0, 0, 0, ())), x1 + 1, Prod.snd (Prod.snd (List.getD (List.set x0 (Int.toNat v5) (x1, Prod.snd (List.getD x0 (Int.toNat v5) (0, 0, 0, ())))) (Int.toNat v5) (0, 0, 0, ()))))) (Int.toNat v5) (Prod.fst (List.getD (List.set (List.set x0 (Int.toNat v5) (x1, Prod.snd (List.getD x0 (Int.toNat v5) (0, 0, 0, ())))) (Int.toNat v5) (Prod.fst (List.getD (List.set x0 (Int.toNat v5) (x1, Prod.snd (List.getD x0 (Int.toNat v5) (0, 0, 0, ())))) (Int.toNat v5) (0, 0, 0, ())), x1 + 1, Prod.snd (Prod.snd (List.getD (List.set x0 (Int.toNat v5) (x1, Prod.snd (List.getD x0 (Int.toNat v5) (0, 0, 0, ())))) (Int.toNat v5) (0, 0, 0, ()))))) (Int.toNat v5) (0, 0, 0, ())), Prod.fst (Prod.snd (List.getD (List.set (List.set x0 (Int.toNat v5) (x1, Prod.snd (List.getD x0 (Int.toNat v5) (0, 0, 0, ())))) (Int.toNat v5) (Prod.fst (List.getD (List.set x0 (Int.toNat v5) (x1, Prod.snd (List.getD x0 (Int.toNat v5) (0, 0, 0, ())))) (Int.toNat v5) (0, 0, 0, ())), x1 + 1, Prod.snd (Prod.snd (List.getD (List.set x0 (Int.toNat v5) (x1, Prod.snd (List.getD x0 (Int.toNat v5) (0, 0, 0, ())))) (Int.toNat v5) (0, 0, 0, ()))))) (Int.toNat v5) (0, 0, 0, ()))), x1 + 1 + 1, Prod.snd (Prod.snd (Prod.snd (List.getD (List.set (List.set x0 (Int.toNat v5) (x1, Prod.snd (List.getD x0 (Int.toNat v5) (0, 0, 0, ())))) (Int.toNat v5) (Prod.fst (List.getD (List.set x0 (Int.toNat v5) (x1, Prod.snd (List.getD x0 (Int.toNat v5) (0, 0, 0, ())))) (Int.toNat v5) (0, 0, 0, ())), x1 + 1, Prod.snd (Prod.snd (List.getD (List.set x0 (Int.toNat v5) (x1, Prod.snd (List.getD x0 (Int.toNat v5) (0, 0, 0, ())))) (Int.toNat v5) (0, 0, 0, ()))))) (Int.toNat v5) (0, 0, 0, ())))))), [Decidable.decide (v5 < (↑(List.length x0) : Int)) = Bool.true, 0 ≤ v5, v5 < (↑(List.length x0) : Int), InR IntKind.i64 (x1 + 1), 0 ≤ v5, v5 < (↑(List.length (List.set x0 (Int.toNat v5) (x1, Prod.snd (List.getD x0 (Int.toNat v5) (0, 0, 0, ()))))) : Int), InR IntKind.i64 (x1 + 1 + 1), 0 ≤ v5, v5 < (↑(List.length (List.set (List.set x0 (Int.toNat v5) (x1, Prod.snd (List.getD x0 (Int.toNat v5) (0, 0, 0, ())))) (Int.toNat v5) (Prod.fst (List.getD (List.set x0 (Int.toNat v5) (x1, Prod.snd (List.getD x0 (Int.toNat v5) (0, 0, 0, ())))) (Int.toNat v5) (0, 0, 0, ())), x1 + 1, Prod.snd (Prod.snd (List.getD (List.set x0 (Int.toNat v5) (x1, Prod.snd (List.getD x0 (Int.toNat v5) (0, 0, 0, ())))) (Int.toNat v5) (0, 0, 0, ())))))) : Int), InR IntKind.i64 (x1 + 1 + 1 + 1), InR IntKind.i64 (v5 + 1)]) := by kernel_rfl
theorem p24_2 (v5 : Int) (x1 : Int) (x0 : List (Int × Int × Int × Unit)) : runF tab ext24 false 34 [] 2000 [0] oks24 kds24 tys24 Try.f24.results [false] (cutAt b24 2) (E24_2 v5 x1 x0) (L24_2 v5 x1 x0) = some ([Dyn.mk (Ty.int IntKind.i64) x1], [Option.some (Lst.mk (Ty.cons (Ty.int IntKind.i64) (Ty.cons (Ty.int IntKind.i64) (Ty.cons (Ty.int IntKind.i64) Ty.unit))) x0)], [Decidable.decide (v5 < (↑(List.length x0) : Int)) = Bool.false]) := by kernel_rfl
theorem snd24 : ∀ n, (∀ (x0 : List (Int × Int × Int × Unit)) (x1 : Int) ds us, R24 n x0 x1 ds us → ∀ K q, AtV Try.prog 24 (PostR kds24 oks24 ds us [0] q K) 34 K q [0] [.code b24] (entE 0 0 sig24 (x0, x1, ())) (entL sig24 (x0, x1, ()))) ∧ (∀ (v5 : Int) (x1 : Int) (x0 : List (Int × Int × Int × Unit)) ds us, R24_2 n v5 x1 x0 ds us → ∀ K q, AtV Try.prog 24 (PostR kds24 oks24 ds us [0] q K) 34 K q [0] (cutAt b24 2) (E24_2 v5 x1 x0) (L24_2 v5 x1 x0)) := by
  intro n
  induction n with
  | zero => exact ⟨fun _ _ _ _ h => by simp only [R24] at h, fun _ _ _ _ _ h => by simp only [R24_2] at h⟩
  | succ n ih =>
  obtain ⟨ih, ih2⟩ := ih
  refine ⟨?_, ?_⟩
  · intro x0 x1 ds us h K q
    rw [R24] at h
    exact AtV.runN tabOk ext24Ok mixed (p24_0 x0 x1) trivial (ih2 _ _ _ _ _ h K q)

  · intro v5 x1 x0 ds us h K q
    rw [R24_2] at h
    by_cases b0 : (Decidable.decide (v5 < (↑(List.length x0) : Int))) = true
    · rw [if_pos b0] at h
      obtain ⟨s0, s1, h⟩ := h
      obtain ⟨s2, h⟩ := h
      obtain ⟨s3, s4, h⟩ := h
      obtain ⟨s5, h⟩ := h
      obtain ⟨s6, s7, h⟩ := h
      obtain ⟨s8, h⟩ := h
      obtain ⟨s9, h⟩ := h
      exact AtV.runN tabOk ext24Ok mixed (p24_1 v5 x1 x0) ⟨b0, s0, s1, s2, s3, s4, s5, s6, s7, s8, s9, trivial⟩ (ih2 _ _ _ _ _ h K q)
    · rw [if_neg b0] at h
      replace b0 := Bool.eq_false_iff.2 b0
      obtain ⟨h, h'⟩ := h; subst h; subst h'
      exact AtV.fin Try.func24 tabOk ext24Ok mixed (p24_2 v5 x1 x0) ⟨b0, trivial⟩



def M24 (x1 : Int) (n : Nat) : List (Int × Int × Int × Unit) := (List.range n).map fun (j : Nat) => ((x1 + 3 * (j : Int)), (x1 + 3 * (j : Int) + 1), (x1 + 3 * (j : Int) + 1 + 1), ())

theorem M24_len (x1 : Int) (n : Nat) : (M24 x1 n).length = n := by simp [M24]

theorem M24_succ (x1 : Int) (n : Nat) : M24 x1 (n + 1) = M24 x1 n ++ [((x1 + 3 * (n : Int)), (x1 + 3 * (n : Int) + 1), (x1 + 3 * (n : Int) + 1 + 1), ())] := by
  simp [M24, List.range_succ]

theorem run24 (x0 : List (Int × Int × Int × Unit)) (x1 : Int) (hm : x0.length ≤ maxLen) (h0 : 0 ≤ x1) (h1 : x1 + 3 * x0.length ≤ 9223372036854775807) : ∀ (k i : Nat), i + k = x0.length →
    R24_2 (k + 1) (i : Int) (x1 + 3 * (i : Int)) (M24 x1 i ++ x0.drop i) [⟨.int .i64, x1 + 3 * (x0.length : Int)⟩] [some ⟨(.cons (.int .i64) (.cons (.int .i64) (.cons (.int .i64) .unit))), M24 x1 x0.length⟩] := by
  intro k
  induction k with
  | zero =>
    intro i hi
    have hl : (M24 x1 i ++ x0.drop i).length = x0.length := by simp [M24_len]; omega
    rw [R24_2, if_neg (by rw [hl]; simp; omega), drop_end x0 i (by omega), List.append_nil]
    have : i = x0.length := by omega
    subst this
    exact ⟨rfl, rfl⟩
  | succ k ih =>
    intro i hi
    have hl : (M24 x1 i ++ x0.drop i).length = x0.length := by simp [M24_len]; omega
    have hA := M24_len x1 i
    rw [R24_2, if_pos (by rw [hl]; simp; omega)]
    rw [drop_get x0 i ((0 : Int), (0 : Int), (0 : Int), ()) (by omega)] at hl ⊢
    simp only [Int.toNat_natCast, set_mid _ _ _ _ i hA, get_mid _ _ _ _ i hA]
    have hl' : ∀ y : (Int × Int × Int × Unit), ((M24 x1 i ++ y :: x0.drop (i + 1)).length : Int) = x0.length := fun y => by rw [← hl]; simp
    simp only [hl']
    refine ⟨by omega, by omega, by rw [i64_iff]; omega, by omega, by omega, by rw [i64_iff]; omega, by omega, by omega, by rw [i64_iff]; omega, inR_up hm (by omega), ?_⟩
    have hx : x1 + 3 * (i : Int) + 1 + 1 + 1 = x1 + 3 * ((i + 1 : Nat) : Int) := by omega
    have := ih (i + 1) (by omega)
    rw [M24_succ, List.append_assoc] at this
    rw [hx]
    simpa using this

def P24 (x0 : List (Int × Int × Int × Unit)) (x1 : Int) : Prop := 0 ≤ x1 ∧ x1 + 3 * x0.length ≤ 9223372036854775807
def g24_0 (x0 : List (Int × Int × Int × Unit)) (x1 : Int) : Int := x1 + 3 * (x0.length : Int)
def u24_0 (x0 : List (Int × Int × Int × Unit)) (x1 : Int) : List (Int × Int × Int × Unit) := M24 x1 x0.length

theorem top24 (x0 : List (Int × Int × Int × Unit)) (x1 : Int) (hm : x0.length ≤ maxLen) (h : P24 x0 x1) : R24 (x0.length + 1 + 1) x0 x1 [⟨.int .i64, g24_0 x0 x1⟩] [some ⟨(.cons (.int .i64) (.cons (.int .i64) (.cons (.int .i64) .unit))), u24_0 x0 x1⟩] := by
  rw [R24]
  have := run24 x0 x1 hm h.1 h.2 x0.length 0 (by omega)
  simpa [M24, g24_0, u24_0] using this

def S24 : Am.Spec := { sig := sig24, pre := fun ⟨x0, x1, _⟩ => P24 x0 x1, upd := fun ⟨x0, x1, _⟩ => [some ⟨(.cons (.int .i64) (.cons (.int .i64) (.cons (.int .i64) .unit))), u24_0 x0 x1⟩], res := fun ⟨x0, x1, _⟩ => [⟨.int .i64, g24_0 x0 x1⟩] }
theorem con24 : Contract Try.prog 24 S24 := contract_of Try.func24 hb24 (Nat.le_of_ble_eq_true (by kernel_rfl)) (fun ⟨x0, x1, _⟩ h hwf K q =>
  (snd24 _).1 x0 x1 _ _ (top24 x0 x1 hwf.1.1 h) K q)

end Go.Proofs.Ytleifkpekoinlaa

/- Function 32 (laws.heldLimitS): its runs between cut points. Written by a program of this repo (gen). -/
set_option linter.unusedVariables false
set_option linter.unusedSimpArgs false
set_option maxRecDepth 100000
namespace Go.Proofs.Ytleifkpekoinlaa
open Go Go.Am Go.Proofs
def ext32 : Ext := []
theorem ext32Ok : ExtOk Try.prog ext32 := trivial
/-! Function 32. -/
noncomputable def b32 : Code := bodyOf Try.f32
theorem hb32 : Try.f32.body = some b32 := by kernel_rfl
def sig32 : List AT := [AT.v (Ty.sl (Ty.cons (Ty.int IntKind.i64) (Ty.cons (Ty.int IntKind.i64) (Ty.cons (Ty.int IntKind.i64) Ty.unit)))), AT.v (Ty.int IntKind.i64)]
def tys32 : List Ty := [Ty.int IntKind.i64]
def kds32 : List RK := []
def oks32 : List AT := owns sig32
def E32_2 (v5 : Int) (x0 : List (Int × Int × Int × Unit)) (x1 : Int) : Env := [(0, PV.a (Atom.sl (Ty.cons (Ty.int IntKind.i64) (Ty.cons (Ty.int IntKind.i64) (Ty.cons (Ty.int IntKind.i64) Ty.unit))) x0)), (1, PV.a (Atom.val (Value.int IntKind.i64 x1))), (5, PV.a (Atom.val (Value.int IntKind.i64 v5)))]
def L32_2 (v5 : Int) (x0 : List (Int × Int × Int × Unit)) (x1 : Int) : Heap := []
mutual
def R32 : Nat → List (Int × Int × Int × Unit) → Int → List Dyn → Prop
  | 0, _, _, _ => False
  | n + 1, x0, x1, ds => (R32_2 n (0) (x0) (x1) ds)
def R32_2 : Nat → Int → List (Int × Int × Int × Unit) → Int → List Dyn → Prop
  | 0, _, _, _, _ => False
  | n + 1, v5, x0, x1, ds => (if (Decidable.decide (v5 < (↑(List.length x0) : Int))) = true then ((0 ≤ v5) ∧ (v5 < (↑(List.length x0) : Int)) ∧ (if (Prod.fst (List.getD x0 (Int.toNat v5) (0, 0, 0, ())) != x1) = true then (ds = [Dyn.mk (Ty.int IntKind.i64) (-1)]) else ((InR IntKind.i64 (x1 + 1)) ∧ ((0 ≤ v5) ∧ (v5 < (↑(List.length x0) : Int)) ∧ (if (Prod.fst (Prod.snd (List.getD x0 (Int.toNat v5) (0, 0, 0, ()))) != x1 + 1) = true then (ds = [Dyn.mk (Ty.int IntKind.i64) (-1)]) else ((InR IntKind.i64 (x1 + 1 + 1)) ∧ ((0 ≤ v5) ∧ (v5 < (↑(List.length x0) : Int)) ∧ (if (Prod.fst (Prod.snd (Prod.snd (List.getD x0 (Int.toNat v5) (0, 0, 0, ())))) != x1 + 1 + 1) = true then (ds = [Dyn.mk (Ty.int IntKind.i64) (-1)]) else ((InR IntKind.i64 (x1 + 1 + 1 + 1)) ∧ ((InR IntKind.i64 (v5 + 1)) ∧ (R32_2 n (v5 + 1) (x0) (x1 + 1 + 1 + 1) ds))))))))))) else (ds = [Dyn.mk (Ty.int IntKind.i64) x1]))
end
theorem p32_0 (x0 : List (Int × Int × Int × Unit)) (x1 : Int) : Am.runN tab ext32 false 40 [] 2000 [] [] [0, 1, 5] [] [] [.code b32] (entE 0 0 sig32 (x0, x1, ())) (entL sig32 (x0, x1, ())) = some (cutAt b32 2, E32_2 (0) (x0) (x1), L32_2 (0) (x0) (x1), []) := by kernel_rfl
theorem p32_1 (v5 : Int) (x0 : List (Int × Int × Int × Unit)) (x1 : Int) : runF tab ext32 false 40 [] 2000 [] oks32 kds32 tys32 Try.f32.results [true, true] (cutAt b32 2) (E32_2 v5 x0 x1) (L32_2 v5 x0 x1) = some ([Dyn.mk (Ty.int IntKind.i64) (-1)], [], [Decidable.decide (v5 < (↑(List.length x0) : Int)) = Bool.true, 0 ≤ v5, v5 < (↑(List.length x0) : Int), (Prod.fst (List.getD x0 (Int.toNat v5) (0, 0, 0, ())) != x1) = Bool.true]) := by kernel_rfl
theorem p32_2 (v5 : Int) (x0 : List (Int × Int × Int × Unit)) (x1 : Int) : runF tab ext32 false 40 [] 2000 [] oks32 kds32 tys32 Try.f32.results [true, false, true] (cutAt b32 2) (E32_2 v5 x0 x1) (L32_2 v5 x0 x1) = some ([Dyn.mk (Ty.int IntKind.i64) (-1)], [], [Decidable.decide (v5 < (↑(List.length x0) : Int)) = Bool.true, 0 ≤ v5, v5 < (↑(List.length x0) : Int), (Prod.fst (List.getD x0 (Int.toNat v5) (0, 0, 0, ())) != x1) = Bool.false, InR IntKind.i64 (x1 + 1), 0 ≤ v5, v5 < (↑(List.length x0) : Int), (Prod.fst (Prod.snd (List.getD x0 (Int.toNat v5) (0, 0, 0, ()))) != x1 + 1) = Bool.true]) := by kernel_rfl
theorem p32_3 (v5 : Int) (x0 : List (Int × Int × Int × Unit)) (x1 : Int) : runF tab ext32 false 40 [] 2000 [] oks32 kds32 tys32 Try.f32.results [true, false, false, true] (cutAt b32 2) (E32_2 v5 x0 x1) (L32_2 v5 x0 x1) = some ([Dyn.mk (Ty.int IntKind.i64) (-1)], [], [Decidable.decide (v5 < (↑(List.length x0) : Int)) = Bool.true, 0 ≤ v5, v5 < (↑(List.length x0) : Int), (Prod.fst (List.getD x0 (Int.toNat v5) (0, 0, 0, ())) != x1) = Bool.false, InR IntKind.i64 (x1 + 1), 0 ≤ v5, v5 < (↑(List.length x0) : Int), (Prod.fst (Prod.snd (List.getD x0 (Int.toNat v5) (0, 0, 0, ()))) != x1 + 1) = Bool.false, InR IntKind.i64 (x1 + 1 + 1), 0 ≤ v5, v5 < (↑(List.length x0) : Int), (Prod.fst (Prod.snd (Prod.snd (List.getD x0 (Int.toNat v5) (0, 0, 0, ())))) != x1 + 1 + 1) = Bool.true]) := by kernel_rfl
theorem p32_4 (v5 : Int) (x0 : List (Int × Int × Int × Unit)) (x1 : Int) : Am.runN tab ext32 false 40 [] 2000 [] [] [0, 1, 5] [] [true, false, false, false] (cutAt b32 2) (E32_2 v5 x0 x1) (L32_2 v5 x0 x1) = some (cutAt b32 2, E32_2 (v5 + 1) (x0) (x1 + 1 + 1 + 1), L32_2 (v5 + 1) (x0) (x1 + 1 + 1 + 1), [Decidable.decide (v5 < (↑(List.length x0) : Int)) = Bool.true, 0 ≤ v5, v5 < (↑(List.length x0) : Int), (Prod.fst (List.getD x0 (Int.toNat v5) (0, 0, 0, ())) != x1) = Bool.false, InR IntKind.i64 (x1 + 1), 0 ≤ v5, v5 < (↑(List.length x0) : Int), (Prod.fst (Prod.snd (List.getD x0 (Int.toNat v5) (0, 0, 0, ()))) != x1 + 1) = Bool.false, InR IntKind.i64 (x1 + 1 + 1), 0 ≤ v5, v5 < (↑(List.length x0) : Int), (Prod.fst (Prod.snd (Prod.snd (List.getD x0 (Int.toNat v5) (0, 0, 0, ())))) != x1 + 1 + 1) = Bool.false, InR IntKind.i64 (x1 + 1 + 1 + 1), InR IntKind.i64 (v5 + 1)]) := by kernel_rfl
theorem p32_5 (v5 : Int) (x0 : List (Int × Int × Int × Unit)) (x1 : Int) : runF tab ext32 false 40 [] 2000 [] oks32 kds32 tys32 Try.f32.results [false] (cutAt b32 2) (E32_2 v5 x0 x1) (L32_2 v5 x0 x1) = some ([Dyn.mk (Ty.int IntKind.i64) x1], [], [Decidable.decide (v5 < (↑(List.length x0) : Int)) = Bool.false]) := by kernel_rfl
theorem snd32 : ∀ n, (∀ (x0 : List (Int × Int × Int × Unit)) (x1 : Int) ds, R32 n x0 x1 ds → ∀ K q, AtV Try.prog 32 (PostR kds32 oks32 ds [] [] q K) 40 K q [] [.code b32] (entE 0 0 sig32 (x0, x1, ())) (entL sig32 (x0, x1, ()))) ∧ (∀ (v5 : Int) (x0 : List (Int × Int × Int × Unit)) (x1 : Int) ds, R32_2 n v5 x0 x1 ds → ∀ K q, AtV Try.prog 32 (PostR kds32 oks32 ds [] [] q K) 40 K q [] (cutAt b32 2) (E32_2 v5 x0 x1) (L32_2 v5 x0 x1)) := by
  intro n
  induction n with
  | zero => exact ⟨fun _ _ _ h => by simp only [R32] at h, fun _ _ _ _ h => by simp only [R32_2] at h⟩
  | succ n ih =>
  obtain ⟨ih, ih2⟩ := ih
  refine ⟨?_, ?_⟩
  · intro x0 x1 ds h K q
    rw [R32] at h
    exact AtV.runN tabOk ext32Ok mixed (p32_0 x0 x1) trivial (ih2 _ _ _ _ h K q)

  · intro v5 x0 x1 ds h K q
    rw [R32_2] at h
    by_cases b0 : (Decidable.decide (v5 < (↑(List.length x0) : Int))) = true
    · rw [if_pos b0] at h
      obtain ⟨s0, s1, h⟩ := h
      by_cases b1 : (Prod.fst (List.getD x0 (Int.toNat v5) (0, 0, 0, ())) != x1) = true
      · rw [if_pos b1] at h
        subst h
        exact AtV.fin Try.func32 tabOk ext32Ok mixed (p32_1 v5 x0 x1) ⟨b0, s0, s1, b1, trivial⟩
      · rw [if_neg b1] at h
        replace b1 := Bool.eq_false_iff.2 b1
        obtain ⟨s2, h⟩ := h
        obtain ⟨s3, s4, h⟩ := h
        by_cases b2 : (Prod.fst (Prod.snd (List.getD x0 (Int.toNat v5) (0, 0, 0, ()))) != x1 + 1) = true
        · rw [if_pos b2] at h
          subst h
          exact AtV.fin Try.func32 tabOk ext32Ok mixed (p32_2 v5 x0 x1) ⟨b0, s0, s1, b1, s2, s3, s4, b2, trivial⟩
        · rw [if_neg b2] at h
          replace b2 := Bool.eq_false_iff.2 b2
          obtain ⟨s5, h⟩ := h
          obtain ⟨s6, s7, h⟩ := h
          by_cases b3 : (Prod.fst (Prod.snd (Prod.snd (List.getD x0 (Int.toNat v5) (0, 0, 0, ())))) != x1 + 1 + 1) = true
          · rw [if_pos b3] at h
            subst h
            exact AtV.fin Try.func32 tabOk ext32Ok mixed (p32_3 v5 x0 x1) ⟨b0, s0, s1, b1, s2, s3, s4, b2, s5, s6, s7, b3, trivial⟩
          · rw [if_neg b3] at h
            replace b3 := Bool.eq_false_iff.2 b3
            obtain ⟨s8, h⟩ := h
            obtain ⟨s9, h⟩ := h
            exact AtV.runN tabOk ext32Ok mixed (p32_4 v5 x0 x1) ⟨b0, s0, s1, b1, s2, s3, s4, b2, s5, s6, s7, b3, s8, s9, trivial⟩ (ih2 _ _ _ _ h K q)
    · rw [if_neg b0] at h
      replace b0 := Bool.eq_false_iff.2 b0
      subst h
      exact AtV.fin Try.func32 tabOk ext32Ok mixed (p32_5 v5 x0 x1) ⟨b0, trivial⟩



theorem run32 (x0 : List (Int × Int × Int × Unit)) (x1 : Int) (hm : x0.length ≤ maxLen) (h0 : 0 ≤ x1) (h1 : x1 + 3 * x0.length ≤ 9223372036854775807) (he : ∀ i : Nat, i < x0.length → x0.getD i ((0 : Int), (0 : Int), (0 : Int), ()) = ((x1 + 3 * (i : Int)), (x1 + 3 * (i : Int) + 1), (x1 + 3 * (i : Int) + 1 + 1), ())) : ∀ (k i : Nat), i + k = x0.length →
    R32_2 (k + 1) (i : Int) x0 (x1 + 3 * (i : Int)) [⟨.int .i64, x1 + 3 * (x0.length : Int)⟩] := by
  intro k
  induction k with
  | zero =>
    intro i hi
    rw [R32_2, if_neg (by simp; omega)]
    have : i = x0.length := by omega
    subst this
    rfl
  | succ k ih =>
    intro i hi
    rw [R32_2, if_pos (by simp; omega)]
    simp only [Int.toNat_natCast, he i (by omega)]
    have hb : ∀ y : ByteArray, (!(ByteArray.toList y == ByteArray.toList y)) = true → False := fun y h => by rw [(bytes_eq y y).2 rfl] at h; cases h
    refine ⟨by omega, by omega, ?_⟩
    rw [if_neg (by simp only [bne_self_eq_false, Bool.false_eq_true, not_false_eq_true])]
    refine ⟨by rw [i64_iff]; omega, by omega, by omega, ?_⟩
    rw [if_neg (by simp only [bne_self_eq_false, Bool.false_eq_true, not_false_eq_true])]
    refine ⟨by rw [i64_iff]; omega, by omega, by omega, ?_⟩
    rw [if_neg (by simp only [bne_self_eq_false, Bool.false_eq_true, not_false_eq_true])]
    refine ⟨by rw [i64_iff]; omega, inR_up hm (by omega), ?_⟩
    have hx : x1 + 3 * (i : Int) + 1 + 1 + 1 = x1 + 3 * ((i + 1 : Nat) : Int) := by omega
    rw [hx]
    exact ih (i + 1) (by omega)

def P32 (x0 : List (Int × Int × Int × Unit)) (x1 : Int) : Prop := (0 ≤ x1 ∧ x1 + 3 * x0.length ≤ 9223372036854775807) ∧ ∀ i : Nat, i < x0.length → x0.getD i ((0 : Int), (0 : Int), (0 : Int), ()) = ((x1 + 3 * (i : Int)), (x1 + 3 * (i : Int) + 1), (x1 + 3 * (i : Int) + 1 + 1), ())
def g32_0 (x0 : List (Int × Int × Int × Unit)) (x1 : Int) : Int := x1 + 3 * (x0.length : Int)

theorem top32 (x0 : List (Int × Int × Int × Unit)) (x1 : Int) (hm : x0.length ≤ maxLen) (h : P32 x0 x1) : R32 (x0.length + 1 + 1) x0 x1 [⟨.int .i64, g32_0 x0 x1⟩] := by
  rw [R32]
  have := run32 x0 x1 hm h.1.1 h.1.2 h.2 x0.length 0 (by omega)
  simpa [g32_0] using this

def S32 : Am.Spec := { sig := sig32, pre := fun ⟨x0, x1, _⟩ => P32 x0 x1, res := fun ⟨x0, x1, _⟩ => [⟨.int .i64, g32_0 x0 x1⟩] }
theorem con32 : Contract Try.prog 32 S32 := contract_of Try.func32 hb32 (Nat.le_of_ble_eq_true (by kernel_rfl)) (fun ⟨x0, x1, _⟩ h hwf K q =>
  (snd32 _).1 x0 x1 _ (top32 x0 x1 hwf.1.1 h) K q)

end Go.Proofs.Ytleifkpekoinlaa

/- Function 25 (laws.markWorkerS): its runs between cut points. Written by a program of this repo (gen). -/
set_option linter.unusedVariables false
set_option linter.unusedSimpArgs false
set_option maxRecDepth 100000
namespace Go.Proofs.Ytleifkpekoinlaa
open Go Go.Am Go.Proofs
def ext25 : Ext := [(46, S46)]
theorem call25_46 : Callable Try.prog 46 := ⟨Try.f46, Try.func46, by kernel_rfl, by kernel_rfl⟩
theorem ext25Ok : ExtOk Try.prog ext25 := ⟨⟨call25_46, con46⟩, trivial⟩
/-! Function 25. -/
noncomputable def b25 : Code := bodyOf Try.f25
theorem hb25 : Try.f25.body = some b25 := by kernel_rfl
def sig25 : List AT := [AT.own (Ty.cons Ty.str (Ty.cons (Ty.int IntKind.i64) (Ty.cons (Ty.int IntKind.i64) Ty.unit))), AT.v (Ty.int IntKind.i64)]
def tys25 : List Ty := [Ty.int IntKind.i64]
def kds25 : List RK := []
def oks25 : List AT := owns sig25
def E25_2 (v5 : Int) (x1 : Int) (x0 : List (ByteArray × Int × Int × Unit)) : Env := [(0, PV.a (Atom.osl 0 Option.none)), (1, PV.a (Atom.val (Value.int IntKind.i64 x1))), (5, PV.a (Atom.val (Value.int IntKind.i64 v5)))]
def L25_2 (v5 : Int) (x1 : Int) (x0 : List (ByteArray × Int × Int × Unit)) : Heap := [Option.some (Arr.mk (Ty.cons Ty.str (Ty.cons (Ty.int IntKind.i64) (Ty.cons (Ty.int IntKind.i64) Ty.unit))) x0 Bool.false Option.none Option.none)]
mutual
def R25 : Nat → List (ByteArray × Int × Int × Unit) → Int → List Dyn → List (Option Lst) → Prop
  | 0, _, _, _, _ => False
  | n + 1, x0, x1, ds, us => (R25_2 n (0) (x1) (x0) ds us)
def R25_2 : Nat → Int → Int → List (ByteArray × Int × Int × Unit) → List Dyn → List (Option Lst) → Prop
  | 0, _, _, _, _, _ => False
  | n + 1, v5, x1, x0, ds, us => (if (Decidable.decide (v5 < (↑(List.length x0) : Int))) = true then ((0 ≤ v5) ∧ (v5 < (↑(List.length x0) : Int)) ∧ ((InR IntKind.i64 (x1 + 1)) ∧ ((0 ≤ v5) ∧ (v5 < (↑(List.length (List.set x0 (Int.toNat v5) (g46_0 x1, Prod.snd (List.getD x0 (Int.toNat v5) (ByteArray.empty, 0, 0, ()))))) : Int)) ∧ ((InR IntKind.i64 (x1 + 1 + 1)) ∧ ((0 ≤ v5) ∧ (v5 < (↑(List.length (List.set (List.set x0 (Int.toNat v5) (g46_0 x1, Prod.snd (List.getD x0 (Int.toNat v5) (ByteArray.empty, 0, 0, ())))) (Int.toNat v5) (Prod.fst (List.getD (List.set x0 (Int.toNat v5) (g46_0 x1, Prod.snd (List.getD x0 (Int.toNat v5) (ByteArray.empty, 0, 0, ())))) (Int.toNat v5) (ByteArray.empty, 0, 0, ())), x1 + 1, Prod.snd (Prod.snd (List.getD (List.set x0 (Int.toNat v5) (g46_0 x1, Prod.snd (List.getD x0 (Int.toNat v5) (ByteArray.empty, 0, 0, ())))) (Int.toNat v5) (ByteArray.empty, 0, 0, ())))))) : Int)) ∧ ((InR IntKind.i64 (x1 + 1 + 1 + 1)) ∧ ((InR IntKind.i64 (v5 + 1)) ∧ (R25_2 n (v5 + 1) (x1 + 1 + 1 + 1) (List.set (List.set (List.set x0 (Int.toNat v5) (g46_0 x1, Prod.snd (List.getD x0 (Int.toNat v5) (ByteArray.empty, 0, 0, ())))) (Int.toNat v5) (Prod.fst (List.getD (List.set x0 (Int.toNat v5) (g46_0 x1, Prod.snd (List.getD x0 (Int.toNat v5) (ByteArray.empty, 0, 0, ())))) (Int.toNat v5) (ByteArray.empty, 0, 0, ())), x1 + 1, Prod.snd (Prod.snd (List.getD (List.set x0 (Int.toNat v5) (g46_0 x1, Prod.snd (List.getD x0 (Int.toNat v5) (ByteArray.empty, 0, 0, ())))) (Int.toNat v5) (ByteArray.empty, 0, 0, ()))))) (Int.toNat v5) (Prod.fst (List.getD (List.set (List.set x0 (Int.toNat v5) (g46_0 x1, Prod.snd (List.getD x0 (Int.toNat v5) (ByteArray.empty, 0, 0, ())))) (Int.toNat v5) (Prod.fst (List.getD (List.set x0 (Int.toNat v5) (g46_0 x1, Prod.snd (List.getD x0 (Int.toNat v5) (ByteArray.empty, 0, 0, ())))) (Int.toNat v5) (ByteArray.empty, 0, 0, ())), x1 + 1, Prod.snd (Prod.snd (List.getD (List.set x0 (Int.toNat v5) (g46_0 x1, Prod.snd (List.getD x0 (Int.toNat v5) (ByteArray.empty, 0, 0, ())))) (Int.toNat v5) (ByteArray.empty, 0, 0, ()))))) (Int.toNat v5) (ByteArray.empty, 0, 0, ())), Prod.fst (Prod.snd (List.getD (List.set (List.set x0 (Int.toNat v5) (g46_0 x1, Prod.snd (List.getD x0 (Int.toNat v5) (ByteArray.empty, 0, 0, ())))) (Int.toNat v5) (Prod.fst (List.getD (List.set x0 (Int.toNat v5) (g46_0 x1, Prod.snd (List.getD x0 (Int.toNat v5) (ByteArray.empty, 0, 0, ())))) (Int.toNat v5) (ByteArray.empty, 0, 0, ())), x1 + 1, Prod.snd (Prod.snd (List.getD (List.set x0 (Int.toNat v5) (g46_0 x1, Prod.snd (List.getD x0 (Int.toNat v5) (ByteArray.empty, 0, 0, ())))) (Int.toNat v5) (ByteArray.empty, 0, 0, ()))))) (Int.toNat v5) (ByteArray.empty, 0, 0, ()))), x1 + 1 + 1, Prod.snd (Prod.snd (Prod.snd (List.getD (List.set (List.set x0 (Int.toNat v5) (g46_0 x1, Prod.snd (List.getD x0 (Int.toNat v5) (ByteArray.empty, 0, 0, ())))) (Int.toNat v5) (Prod.fst (List.getD (List.set x0 (Int.toNat v5) (g46_0 x1, Prod.snd (List.getD x0 (Int.toNat v5) (ByteArray.empty, 0, 0, ())))) (Int.toNat v5) (ByteArray.empty, 0, 0, ())), x1 + 1, Prod.snd (Prod.snd (List.getD (List.set x0 (Int.toNat v5) (g46_0 x1, Prod.snd (List.getD x0 (Int.toNat v5) (ByteArray.empty, 0, 0, ())))) (Int.toNat v5) (ByteArray.empty, 0, 0, ()))))) (Int.toNat v5) (ByteArray.empty, 0, 0, ())))))) ds us)))))))) else (ds = [Dyn.mk (Ty.int IntKind.i64) x1] ∧ us = [Option.some (Lst.mk (Ty.cons Ty.str (Ty.cons (Ty.int IntKind.i64) (Ty.cons (Ty.int IntKind.i64) Ty.unit))) x0)]))
end
theorem p25_0 (x0 : List (ByteArray × Int × Int × Unit)) (x1 : Int) : Am.runN tab ext25 false 35 [] 2000 [0] [] [0, 1, 5] [0] [] [.code b25] (entE 0 0 sig25 (x0, x1, ())) (entL sig25 (x0, x1, ())) = some (cutAt b25 2, E25_2 (0) (x1) (x0), L25_2 (0) (x1) (x0), []) := by kernel_rfl
theorem p25_1 (v5 : Int) (x1 : Int) (x0 : List (ByteArray × Int × Int × Unit)) : Am.runN tab ext25 false 35 [] 2000 [0] [] [0, 1, 5] [0] [true] (cutAt b25 2) (E25_2 v5 x1 x0) (L25_2 v5 x1 x0) = some (cutAt b25 2, E25_2 (v5 + 1) (x1 + 1 + 1 + 1) (List.set (List.set (List.set x0 (Int.toNat v5) (g46_0 x1, Prod.snd (List.getD x0 (Int.toNat v5) (ByteArray.empty, 0, 0, ())))) (Int.toNat v5) (Prod.fst (List.getD (List.set x0 (Int.toNat v5) (g46_0 x1, Prod.snd (List.getD x0 (Int.toNat v5) (ByteArray.empty, 0, 0, ())))) (Int.toNat v5) (ByteArray.empty, 0, 0, ())), x1 + 1, Prod.snd (Prod.snd (List.getD (List.set x0 (Int.toNat v5) (g46_0 x1, Prod.snd (List.getD x0 (Int.toNat v5) (ByteArray.empty, 0, 0, ())))) (Int.toNat v5) (ByteArray.empty, 0, 0, ()))))) (Int.toNat v5) (Prod.fst (List.getD (List.set (List.set x0 (Int.toNat v5) (g46_0 x1, Prod.snd (List.getD x0 (Int.toNat v5) (ByteArray.empty, 0, 0, ())))) (Int.toNat v5) (Prod.fst (List.getD (List.set x0 (Int.toNat v5) (g46_0 x1, Prod.snd (List.getD x0 (Int.toNat v5) (ByteArray.empty, 0, 0, ())))) (Int.toNat v5) (ByteArray.empty, 0, 0, ())), x1 + 1, Prod.snd (Prod.snd (List.getD (List.set x0 (Int.toNat v5) (g46_0 x1, Prod.snd (List.getD x0 (Int.toNat v5) (ByteArray.empty, 0, 0, ())))) (Int.toNat v5) (ByteArray.empty, 0, 0, ()))))) (Int.toNat v5) (ByteArray.empty, 0, 0, ())), Prod.fst (Prod.snd (List.getD (List.set (List.set x0 (Int.toNat v5) (g46_0 x1, Prod.snd (List.getD x0 (Int.toNat v5) (ByteArray.empty, 0, 0, ())))) (Int.toNat v5) (Prod.fst (List.getD (List.set x0 (Int.toNat v5) (g46_0 x1, Prod.snd (List.getD x0 (Int.toNat v5) (ByteArray.empty, 0, 0, ())))) (Int.toNat v5) (ByteArray.empty, 0, 0, ())), x1 + 1, Prod.snd (Prod.snd (List.getD (List.set x0 (Int.toNat v5) (g46_0 x1, Prod.snd (List.getD x0 (Int.toNat v5) (ByteArray.empty, 0, 0, ())))) (Int.toNat v5) (ByteArray.empty, 0, 0, ()))))) (Int.toNat v5) (ByteArray.empty, 0, 0, ()))), x1 + 1 + 1, Prod.snd (Prod.snd (Prod.snd (List.getD (List.set (List.set x0 (Int.toNat v5) (g46_0 x1, Prod.snd (List.getD x0 (Int.toNat v5) (ByteArray.empty, 0, 0, ())))) (Int.toNat v5) (Prod.fst (List.getD (List.set x0 (Int.toNat v5) (g46_0 x1, Prod.snd (List.getD x0 (Int.toNat v5) (ByteArray.empty, 0, 0, ())))) (Int.toNat v5) (ByteArray.empty, 0, 0, ())), x1 + 1, Prod.snd (Prod.snd (List.getD (List.set x0 (Int.toNat v5) (g46_0 x1, Prod.snd (List.getD x0 (Int.toNat v5) (ByteArray.empty, 0, 0, ())))) (Int.toNat v5) (ByteArray.empty, 0, 0, ()))))) (Int.toNat v5) (ByteArray.empty, 0, 0, ())))))), L25_2 (v5 + 1) (x1 + 1 + 1 + 1) (List.set (List.set (List.set x0 (Int.toNat v5) (g46_0 x1, Prod.snd (List.getD x0 (Int.toNat v5) (ByteArray.empty, 0, 0, ())))) (Int.toNat v5) (Prod.fst (List.getD (List.set x0 (Int.toNat v5) (g46_0 x1, Prod.snd (List.getD x0 (Int.toNat v5) (ByteArray.empty, 0, 0, ())))) (Int.toNat v5) (ByteArray.empty, 0, 0, ())), x1 + 1, Prod.snd (Prod.snd (List.getD (List.set x0 (Int.toNat v5) (g46_0 x1, Prod.snd (List.getD x0 (Int.toNat v5) (ByteArray.empty, 0, 0, ())))) (Int.toNat v5) (ByteArray.empty, 0, 0, ()))))) (Int.toNat v5) (Prod.fst (List.getD (List.set (List.set x0 (Int.toNat v5) (g46_0 x1, Prod.snd (List.getD x0 (Int.toNat v5) (ByteArray.empty, 0, 0, ())))) (Int.toNat v5) (Prod.fst (List.getD (List.set x0 (Int.toNat v5) (g46_0 x1, Prod.snd (List.getD x0 (Int.toNat v5) (ByteArray.empty, 0, 0, ())))) (Int.toNat v5) (ByteArray.empty, 0, 0, ())), x1 + 1, Prod.snd (Prod.snd (List.getD (List.set x0 (Int.toNat v5) (g46_0 x1, Prod.snd (List.getD x0 (Int.toNat v5) (ByteArray.empty, 0, 0, ())))) (Int.toNat v5) (ByteArray.empty, 0, 0, ()))))) (Int.toNat v5) (ByteArray.empty, 0, 0, ())), Prod.fst (Prod.snd (List.getD (List.set (List.set x0 (Int.toNat v5) (g46_0 x1, Prod.snd (List.getD x0 (Int.toNat v5) (ByteArray.empty, 0, 0, ())))) (Int.toNat v5) (Prod.fst (List.getD (List.set x0 (Int.toNat v5) (g46_0 x1, Prod.snd (List.getD x0 (Int.toNat v5) (ByteArray.empty, 0, 0, ())))) (Int.toNat v5) (ByteArray.empty, 0, 0, ())), x1 + 1, Prod.snd (Prod.snd (List.getD (List.set x0 (Int.toNat v5) (g46_0 x1, Prod.snd (List.getD x0 (Int.toNat v5) (ByteArray.empty, 0, 0, ())))) (Int.toNat v5) (ByteArray.empty, 0, 0, ()))))) (Int.toNat v5) (ByteArray.empty, 0, 0, ()))), x1 + 1 + 1, Prod.snd (Prod.snd (Prod.snd (List.getD (List.set (List.set x0 (Int.toNat v5) (g46_0 x1, Prod.snd (List.getD x0 (Int.toNat v5) (ByteArray.empty, 0, 0, ())))) (Int.toNat v5) (Prod.fst (List.getD (List.set x0 (Int.toNat v5) (g46_0 x1, Prod.snd (List.getD x0 (Int.toNat v5) (ByteArray.empty, 0, 0, ())))) (Int.toNat v5) (ByteArray.empty, 0, 0, ())), x1 + 1, Prod.snd (Prod.snd (List.getD (List.set x0 (Int.toNat v5) (g46_0 x1, Prod.snd (List.getD x0 (Int.toNat v5) (ByteArray.empty, 0, 0, ())))) (Int.toNat v5) (ByteArray.empty, 0, 0, ()))))) (Int.toNat v5) (ByteArray.empty, 0, 0, ())))))), [Decidable.decide (v5 < (↑(List.length x0) : Int)) = Bool.true, True, 0 ≤ v5, v5 < (↑(List.length x0) : Int), InR IntKind.i64 (x1 + 1), 0 ≤ v5, v5 < (↑(List.length (List.set x0 (Int.toNat v5) (g46_0 x1, Prod.snd (List.getD x0 (Int.toNat v5) (ByteArray.empty, 0, 0, ()))))) : Int), InR IntKind.i64 (x1 + 1 + 1), 0 ≤ v5, v5 < (↑(List.length (List.set (List.set x0 (Int.toNat v5) (g46_0 x1, Prod.snd (List.getD x0 (Int.toNat v5) (ByteArray.empty, 0, 0, ())))) (Int.toNat v5) (Prod.fst (List.getD (List.set x0 (Int.toNat v5) (g46_0 x1, Prod.snd (List.getD x0 (Int.toNat v5) (ByteArray.empty, 0, 0, ())))) (Int.toNat v5) (ByteArray.empty, 0, 0, ())), x1 + 1, Prod.snd (Prod.snd (List.getD (List.set x0 (Int.toNat v5) (g46_0 x1, Prod.snd (List.getD x0 (Int.toNat v5) (ByteArray.empty, 0, 0, ())))) (Int.toNat v5) (ByteArray.empty, 0, 0, ())))))) : Int), InR IntKind.i64 (x1 + 1 + 1 + 1), InR IntKind.i64 (v5 + 1)]) := by kernel_rfl
theorem p25_2 (v5 : Int) (x1 : Int) (x0 : List (ByteArray × Int × Int × Unit)) : runF tab ext25 false 35 [] 2000 [0] oks25 kds25 tys25 Try.f25.results [false] (cutAt b25 2) (E25_2 v5 x1 x0) (L25_2 v5 x1 x0) = some ([Dyn.mk (Ty.int IntKind.i64) x1], [Option.some (Lst.mk (Ty.cons Ty.str (Ty.cons (Ty.int IntKind.i64) (Ty.cons (Ty.int IntKind.i64) Ty.unit))) x0)], [Decidable.decide (v5 < (↑(List.length x0) : Int)) = Bool.false]) := by kernel_rfl
theorem snd25 : ∀ n, (∀ (x0 : List (ByteArray × Int × Int × Unit)) (x1 : Int) ds us, R25 n x0 x1 ds us → ∀ K q, AtV Try.prog 25 (PostR kds25 oks25 ds us [0] q K) 35 K q [0] [.code b25] (entE 0 0 sig25 (x0, x1, ())) (entL sig25 (x0, x1, ()))) ∧ (∀ (v5 : Int) (x1 : Int) (x0 : List (ByteArray × Int × Int × Unit)) ds us, R25_2 n v5 x1 x0 ds us → ∀ K q, AtV Try.prog 25 (PostR kds25 oks25 ds us [0] q K) 35 K q [0] (cutAt b25 2) (E25_2 v5 x1 x0) (L25_2 v5 x1 x0)) := by
  intro n
  induction n with
  | zero => exact ⟨fun _ _ _ _ h => by simp only [R25] at h, fun _ _ _ _ _ h => by simp only [R25_2] at h⟩
  | succ n ih =>
  obtain ⟨ih, ih2⟩ := ih
  refine ⟨?_, ?_⟩
  · intro x0 x1 ds us h K q
    rw [R25] at h
    exact AtV.runN tabOk ext25Ok mixed (p25_0 x0 x1) trivial (ih2 _ _ _ _ _ h K q)

  · intro v5 x1 x0 ds us h K q
    rw [R25_2] at h
    by_cases b0 : (Decidable.decide (v5 < (↑(List.length x0) : Int))) = true
    · rw [if_pos b0] at h
      obtain ⟨s0, s1, h⟩ := h
      obtain ⟨s2, h⟩ := h
      obtain ⟨s3, s4, h⟩ := h
      obtain ⟨s5, h⟩ := h
      obtain ⟨s6, s7, h⟩ := h
      obtain ⟨s8, h⟩ := h
      obtain ⟨s9, h⟩ := h
      exact AtV.runN tabOk ext25Ok mixed (p25_1 v5 x1 x0) ⟨b0, trivial, s0, s1, s2, s3, s4, s5, s6, s7, s8, s9, trivial⟩ (ih2 _ _ _ _ _ h K q)
    · rw [if_neg b0] at h
      replace b0 := Bool.eq_false_iff.2 b0
      obtain ⟨h, h'⟩ := h; subst h; subst h'
      exact AtV.fin Try.func25 tabOk ext25Ok mixed (p25_2 v5 x1 x0) ⟨b0, trivial⟩



def M25 (x1 : Int) (n : Nat) : List (ByteArray × Int × Int × Unit) := (List.range n).map fun (j : Nat) => (g46_0 (x1 + 3 * (j : Int)), (x1 + 3 * (j : Int) + 1), (x1 + 3 * (j : Int) + 1 + 1), ())

theorem M25_len (x1 : Int) (n : Nat) : (M25 x1 n).length = n := by simp [M25]

theorem M25_succ (x1 : Int) (n : Nat) : M25 x1 (n + 1) = M25 x1 n ++ [(g46_0 (x1 + 3 * (n : Int)), (x1 + 3 * (n : Int) + 1), (x1 + 3 * (n : Int) + 1 + 1), ())] := by
  simp [M25, List.range_succ]

theorem run25 (x0 : List (ByteArray × Int × Int × Unit)) (x1 : Int) (hm : x0.length ≤ maxLen) (h0 : 0 ≤ x1) (h1 : x1 + 3 * x0.length ≤ 9223372036854775807) : ∀ (k i : Nat), i + k = x0.length →
    R25_2 (k + 1) (i : Int) (x1 + 3 * (i : Int)) (M25 x1 i ++ x0.drop i) [⟨.int .i64, x1 + 3 * (x0.length : Int)⟩] [some ⟨(.cons .str (.cons (.int .i64) (.cons (.int .i64) .unit))), M25 x1 x0.length⟩] := by
  intro k
  induction k with
  | zero =>
    intro i hi
    have hl : (M25 x1 i ++ x0.drop i).length = x0.length := by simp [M25_len]; omega
    rw [R25_2, if_neg (by rw [hl]; simp; omega), drop_end x0 i (by omega), List.append_nil]
    have : i = x0.length := by omega
    subst this
    exact ⟨rfl, rfl⟩
  | succ k ih =>
    intro i hi
    have hl : (M25 x1 i ++ x0.drop i).length = x0.length := by simp [M25_len]; omega
    have hA := M25_len x1 i
    rw [R25_2, if_pos (by rw [hl]; simp; omega)]
    rw [drop_get x0 i (ByteArray.empty, (0 : Int), (0 : Int), ()) (by omega)] at hl ⊢
    simp only [Int.toNat_natCast, set_mid _ _ _ _ i hA, get_mid _ _ _ _ i hA]
    have hl' : ∀ y : (ByteArray × Int × Int × Unit), ((M25 x1 i ++ y :: x0.drop (i + 1)).length : Int) = x0.length := fun y => by rw [← hl]; simp
    simp only [hl']
    refine ⟨by omega, by omega, by rw [i64_iff]; omega, by omega, by omega, by rw [i64_iff]; omega, by omega, by omega, by rw [i64_iff]; omega, inR_up hm (by omega), ?_⟩
    have hx : x1 + 3 * (i : Int) + 1 + 1 + 1 = x1 + 3 * ((i + 1 : Nat) : Int) := by omega
    have := ih (i + 1) (by omega)
    rw [M25_succ, List.append_assoc] at this
    rw [hx]
    simpa using this

def P25 (x0 : List (ByteArray × Int × Int × Unit)) (x1 : Int) : Prop := 0 ≤ x1 ∧ x1 + 3 * x0.length ≤ 9223372036854775807
def g25_0 (x0 : List (ByteArray × Int × Int × Unit)) (x1 : Int) : Int := x1 + 3 * (x0.length : Int)
def u25_0 (x0 : List (ByteArray × Int × Int × Unit)) (x1 : Int) : List (ByteArray × Int × Int × Unit) := M25 x1 x0.length

theorem top25 (x0 : List (ByteArray × Int × Int × Unit)) (x1 : Int) (hm : x0.length ≤ maxLen) (h : P25 x0 x1) : R25 (x0.length + 1 + 1) x0 x1 [⟨.int .i64, g25_0 x0 x1⟩] [some ⟨(.cons .str (.cons (.int .i64) (.cons (.int .i64) .unit))), u25_0 x0 x1⟩] := by
  rw [R25]
  have := run25 x0 x1 hm h.1 h.2 x0.length 0 (by omega)
  simpa [M25, g25_0, u25_0] using this

def S25 : Am.Spec := { sig := sig25, pre := fun ⟨x0, x1, _⟩ => P25 x0 x1, upd := fun ⟨x0, x1, _⟩ => [some ⟨(.cons .str (.cons (.int .i64) (.cons (.int .i64) .unit))), u25_0 x0 x1⟩], res := fun ⟨x0, x1, _⟩ => [⟨.int .i64, g25_0 x0 x1⟩] }
theorem con25 : Contract Try.prog 25 S25 := contract_of Try.func25 hb25 (Nat.le_of_ble_eq_true (by kernel_rfl)) (fun ⟨x0, x1, _⟩ h hwf K q =>
  (snd25 _).1 x0 x1 _ _ (top25 x0 x1 hwf.1.1 h) K q)

end Go.Proofs.Ytleifkpekoinlaa

/- Function 33 (laws.heldWorkerS): its runs between cut points. Written by a program of this repo (gen). -/
set_option linter.unusedVariables false
set_option linter.unusedSimpArgs false
set_option maxRecDepth 100000
namespace Go.Proofs.Ytleifkpekoinlaa
open Go Go.Am Go.Proofs
def ext33 : Ext := [(46, S46)]
theorem call33_46 : Callable Try.prog 46 := ⟨Try.f46, Try.func46, by kernel_rfl, by kernel_rfl⟩
theorem ext33Ok : ExtOk Try.prog ext33 := ⟨⟨call33_46, con46⟩, trivial⟩
/-! Function 33. -/
noncomputable def b33 : Code := bodyOf Try.f33
theorem hb33 : Try.f33.body = some b33 := by kernel_rfl
def sig33 : List AT := [AT.v (Ty.sl (Ty.cons Ty.str (Ty.cons (Ty.int IntKind.i64) (Ty.cons (Ty.int IntKind.i64) Ty.unit)))), AT.v (Ty.int IntKind.i64)]
def tys33 : List Ty := [Ty.int IntKind.i64]
def kds33 : List RK := []
def oks33 : List AT := owns sig33
def E33_2 (v5 : Int) (x0 : List (ByteArray × Int × Int × Unit)) (x1 : Int) : Env := [(0, PV.a (Atom.sl (Ty.cons Ty.str (Ty.cons (Ty.int IntKind.i64) (Ty.cons (Ty.int IntKind.i64) Ty.unit))) x0)), (1, PV.a (Atom.val (Value.int IntKind.i64 x1))), (5, PV.a (Atom.val (Value.int IntKind.i64 v5)))]
def L33_2 (v5 : Int) (x0 : List (ByteArray × Int × Int × Unit)) (x1 : Int) : Heap := []
mutual
def R33 : Nat → List (ByteArray × Int × Int × Unit) → Int → List Dyn → Prop
  | 0, _, _, _ => False
  | n + 1, x0, x1, ds => (R33_2 n (0) (x0) (x1) ds)
def R33_2 : Nat → Int → List (ByteArray × Int × Int × Unit) → Int → List Dyn → Prop
  | 0, _, _, _, _ => False
  | n + 1, v5, x0, x1, ds => (if (Decidable.decide (v5 < (↑(List.length x0) : Int))) = true then ((0 ≤ v5) ∧ (v5 < (↑(List.length x0) : Int)) ∧ (if (!ByteArray.toList (Prod.fst (List.getD x0 (Int.toNat v5) (ByteArray.empty, 0, 0, ()))) == ByteArray.toList (g46_0 x1)) = true then (ds = [Dyn.mk (Ty.int IntKind.i64) (-1)]) else ((InR IntKind.i64 (x1 + 1)) ∧ ((0 ≤ v5) ∧ (v5 < (↑(List.length x0) : Int)) ∧ (if (Prod.fst (Prod.snd (List.getD x0 (Int.toNat v5) (ByteArray.empty, 0, 0, ()))) != x1 + 1) = true then (ds = [Dyn.mk (Ty.int IntKind.i64) (-1)]) else ((InR IntKind.i64 (x1 + 1 + 1)) ∧ ((0 ≤ v5) ∧ (v5 < (↑(List.length x0) : Int)) ∧ (if (Prod.fst (Prod.snd (Prod.snd (List.getD x0 (Int.toNat v5) (ByteArray.empty, 0, 0, ())))) != x1 + 1 + 1) = true then (ds = [Dyn.mk (Ty.int IntKind.i64) (-1)]) else ((InR IntKind.i64 (x1 + 1 + 1 + 1)) ∧ ((InR IntKind.i64 (v5 + 1)) ∧ (R33_2 n (v5 + 1) (x0) (x1 + 1 + 1 + 1) ds))))))))))) else (ds = [Dyn.mk (Ty.int IntKind.i64) x1]))
end
theorem p33_0 (x0 : List (ByteArray × Int × Int × Unit)) (x1 : Int) : Am.runN tab ext33 false 41 [] 2000 [] [] [0, 1, 5] [] [] [.code b33] (entE 0 0 sig33 (x0, x1, ())) (entL sig33 (x0, x1, ())) = some (cutAt b33 2, E33_2 (0) (x0) (x1), L33_2 (0) (x0) (x1), []) := by kernel_rfl
theorem p33_1 (v5 : Int) (x0 : List (ByteArray × Int × Int × Unit)) (x1 : Int) : runF tab ext33 false 41 [] 2000 [] oks33 kds33 tys33 Try.f33.results [true, true] (cutAt b33 2) (E33_2 v5 x0 x1) (L33_2 v5 x0 x1) = some ([Dyn.mk (Ty.int IntKind.i64) (-1)], [], [Decidable.decide (v5 < (↑(List.length x0) : Int)) = Bool.true, 0 ≤ v5, v5 < (↑(List.length x0) : Int), True, (!ByteArray.toList (Prod.fst (List.getD x0 (Int.toNat v5) (ByteArray.empty, 0, 0, ()))) == ByteArray.toList (g46_0 x1)) = Bool.true]) := by kernel_rfl
theorem p33_2 (v5 : Int) (x0 : List (ByteArray × Int × Int × Unit)) (x1 : Int) : runF tab ext33 false 41 [] 2000 [] oks33 kds33 tys33 Try.f33.results [true, false, true] (cutAt b33 2) (E33_2 v5 x0 x1) (L33_2 v5 x0 x1) = some ([Dyn.mk (Ty.int IntKind.i64) (-1)], [], [Decidable.decide (v5 < (↑(List.length x0) : Int)) = Bool.true, 0 ≤ v5, v5 < (↑(List.length x0) : Int), True, (!ByteArray.toList (Prod.fst (List.getD x0 (Int.toNat v5) (ByteArray.empty, 0, 0, ()))) == ByteArray.toList (g46_0 x1)) = Bool.false, InR IntKind.i64 (x1 + 1), 0 ≤ v5, v5 < (↑(List.length x0) : Int), (Prod.fst (Prod.snd (List.getD x0 (Int.toNat v5) (ByteArray.empty, 0, 0, ()))) != x1 + 1) = Bool.true]) := by kernel_rfl
theorem p33_3 (v5 : Int) (x0 : List (ByteArray × Int × Int × Unit)) (x1 : Int) : runF tab ext33 false 41 [] 2000 [] oks33 kds33 tys33 Try.f33.results [true, false, false, true] (cutAt b33 2) (E33_2 v5 x0 x1) (L33_2 v5 x0 x1) = some ([Dyn.mk (Ty.int IntKind.i64) (-1)], [], [Decidable.decide (v5 < (↑(List.length x0) : Int)) = Bool.true, 0 ≤ v5, v5 < (↑(List.length x0) : Int), True, (!ByteArray.toList (Prod.fst (List.getD x0 (Int.toNat v5) (ByteArray.empty, 0, 0, ()))) == ByteArray.toList (g46_0 x1)) = Bool.false, InR IntKind.i64 (x1 + 1), 0 ≤ v5, v5 < (↑(List.length x0) : Int), (Prod.fst (Prod.snd (List.getD x0 (Int.toNat v5) (ByteArray.empty, 0, 0, ()))) != x1 + 1) = Bool.false, InR IntKind.i64 (x1 + 1 + 1), 0 ≤ v5, v5 < (↑(List.length x0) : Int), (Prod.fst (Prod.snd (Prod.snd (List.getD x0 (Int.toNat v5) (ByteArray.empty, 0, 0, ())))) != x1 + 1 + 1) = Bool.true]) := by kernel_rfl
theorem p33_4 (v5 : Int) (x0 : List (ByteArray × Int × Int × Unit)) (x1 : Int) : Am.runN tab ext33 false 41 [] 2000 [] [] [0, 1, 5] [] [true, false, false, false] (cutAt b33 2) (E33_2 v5 x0 x1) (L33_2 v5 x0 x1) = some (cutAt b33 2, E33_2 (v5 + 1) (x0) (x1 + 1 + 1 + 1), L33_2 (v5 + 1) (x0) (x1 + 1 + 1 + 1), [Decidable.decide (v5 < (↑(List.length x0) : Int)) = Bool.true, 0 ≤ v5, v5 < (↑(List.length x0) : Int), True, (!ByteArray.toList (Prod.fst (List.getD x0 (Int.toNat v5) (ByteArray.empty, 0, 0, ()))) == ByteArray.toList (g46_0 x1)) = Bool.false, InR IntKind.i64 (x1 + 1), 0 ≤ v5, v5 < (↑(List.length x0) : Int), (Prod.fst (Prod.snd (List.getD x0 (Int.toNat v5) (ByteArray.empty, 0, 0, ()))) != x1 + 1) = Bool.false, InR IntKind.i64 (x1 + 1 + 1), 0 ≤ v5, v5 < (↑(List.length x0) : Int), (Prod.fst (Prod.snd (Prod.snd (List.getD x0 (Int.toNat v5) (ByteArray.empty, 0, 0, ())))) != x1 + 1 + 1) = Bool.false, InR IntKind.i64 (x1 + 1 + 1 + 1), InR IntKind.i64 (v5 + 1)]) := by kernel_rfl
theorem p33_5 (v5 : Int) (x0 : List (ByteArray × Int × Int × Unit)) (x1 : Int) : runF tab ext33 false 41 [] 2000 [] oks33 kds33 tys33 Try.f33.results [false] (cutAt b33 2) (E33_2 v5 x0 x1) (L33_2 v5 x0 x1) = some ([Dyn.mk (Ty.int IntKind.i64) x1], [], [Decidable.decide (v5 < (↑(List.length x0) : Int)) = Bool.false]) := by kernel_rfl
theorem snd33 : ∀ n, (∀ (x0 : List (ByteArray × Int × Int × Unit)) (x1 : Int) ds, R33 n x0 x1 ds → ∀ K q, AtV Try.prog 33 (PostR kds33 oks33 ds [] [] q K) 41 K q [] [.code b33] (entE 0 0 sig33 (x0, x1, ())) (entL sig33 (x0, x1, ()))) ∧ (∀ (v5 : Int) (x0 : List (ByteArray × Int × Int × Unit)) (x1 : Int) ds, R33_2 n v5 x0 x1 ds → ∀ K q, AtV Try.prog 33 (PostR kds33 oks33 ds [] [] q K) 41 K q [] (cutAt b33 2) (E33_2 v5 x0 x1) (L33_2 v5 x0 x1)) := by
  intro n
  induction n with
  | zero => exact ⟨fun _ _ _ h => by simp only [R33] at h, fun _ _ _ _ h => by simp only [R33_2] at h⟩
  | succ n ih =>
  obtain ⟨ih, ih2⟩ := ih
  refine ⟨?_, ?_⟩
  · intro x0 x1 ds h K q
    rw [R33] at h
    exact AtV.runN tabOk ext33Ok mixed (p33_0 x0 x1) trivial (ih2 _ _ _ _ h K q)

  · intro v5 x0 x1 ds h K q
    rw [R33_2] at h
    by_cases b0 : (Decidable.decide (v5 < (↑(List.length x0) : Int))) = true
    · rw [if_pos b0] at h
      obtain ⟨s0, s1, h⟩ := h
      by_cases b1 : (!ByteArray.toList (Prod.fst (List.getD x0 (Int.toNat v5) (ByteArray.empty, 0, 0, ()))) == ByteArray.toList (g46_0 x1)) = true
      · rw [if_pos b1] at h
        subst h
        exact AtV.fin Try.func33 tabOk ext33Ok mixed (p33_1 v5 x0 x1) ⟨b0, s0, s1, trivial, b1, trivial⟩
      · rw [if_neg b1] at h
        replace b1 := Bool.eq_false_iff.2 b1
        obtain ⟨s2, h⟩ := h
        obtain ⟨s3, s4, h⟩ := h
        by_cases b2 : (Prod.fst (Prod.snd (List.getD x0 (Int.toNat v5) (ByteArray.empty, 0, 0, ()))) != x1 + 1) = true
        · rw [if_pos b2] at h
          subst h
          exact AtV.fin Try.func33 tabOk ext33Ok mixed (p33_2 v5 x0 x1) ⟨b0, s0, s1, trivial, b1, s2, s3, s4, b2, trivial⟩
        · rw [if_neg b2] at h
          replace b2 := Bool.eq_false_iff.2 b2
          obtain ⟨s5, h⟩ := h
          obtain ⟨s6, s7, h⟩ := h
          by_cases b3 : (Prod.fst (Prod.snd (Prod.snd (List.getD x0 (Int.toNat v5) (ByteArray.empty, 0, 0, ())))) != x1 + 1 + 1) = true
          · rw [if_pos b3] at h
            subst h
            exact AtV.fin Try.func33 tabOk ext33Ok mixed (p33_3 v5 x0 x1) ⟨b0, s0, s1, trivial, b1, s2, s3, s4, b2, s5, s6, s7, b3, trivial⟩
          · rw [if_neg b3] at h
            replace b3 := Bool.eq_false_iff.2 b3
            obtain ⟨s8, h⟩ := h
            obtain ⟨s9, h⟩ := h
            exact AtV.runN tabOk ext33Ok mixed (p33_4 v5 x0 x1) ⟨b0, s0, s1, trivial, b1, s2, s3, s4, b2, s5, s6, s7, b3, s8, s9, trivial⟩ (ih2 _ _ _ _ h K q)
    · rw [if_neg b0] at h
      replace b0 := Bool.eq_false_iff.2 b0
      subst h
      exact AtV.fin Try.func33 tabOk ext33Ok mixed (p33_5 v5 x0 x1) ⟨b0, trivial⟩



theorem run33 (x0 : List (ByteArray × Int × Int × Unit)) (x1 : Int) (hm : x0.length ≤ maxLen) (h0 : 0 ≤ x1) (h1 : x1 + 3 * x0.length ≤ 9223372036854775807) (he : ∀ i : Nat, i < x0.length → x0.getD i (ByteArray.empty, (0 : Int), (0 : Int), ()) = (g46_0 (x1 + 3 * (i : Int)), (x1 + 3 * (i : Int) + 1), (x1 + 3 * (i : Int) + 1 + 1), ())) : ∀ (k i : Nat), i + k = x0.length →
    R33_2 (k + 1) (i : Int) x0 (x1 + 3 * (i : Int)) [⟨.int .i64, x1 + 3 * (x0.length : Int)⟩] := by
  intro k
  induction k with
  | zero =>
    intro i hi
    rw [R33_2, if_neg (by simp; omega)]
    have : i = x0.length := by omega
    subst this
    rfl
  | succ k ih =>
    intro i hi
    rw [R33_2, if_pos (by simp; omega)]
    simp only [Int.toNat_natCast, he i (by omega)]
    have hb : ∀ y : ByteArray, (!(ByteArray.toList y == ByteArray.toList y)) = true → False := fun y h => by rw [(bytes_eq y y).2 rfl] at h; cases h
    refine ⟨by omega, by omega, ?_⟩
    rw [if_neg (hb _)]
    refine ⟨by rw [i64_iff]; omega, by omega, by omega, ?_⟩
    rw [if_neg (by simp only [bne_self_eq_false, Bool.false_eq_true, not_false_eq_true])]
    refine ⟨by rw [i64_iff]; omega, by omega, by omega, ?_⟩
    rw [if_neg (by simp only [bne_self_eq_false, Bool.false_eq_true, not_false_eq_true])]
    refine ⟨by rw [i64_iff]; omega, inR_up hm (by omega), ?_⟩
    have hx : x1 + 3 * (i : Int) + 1 + 1 + 1 = x1 + 3 * ((i + 1 : Nat) : Int) := by omega
    rw [hx]
    exact ih (i + 1) (by omega)

def P33 (x0 : List (ByteArray × Int × Int × Unit)) (x1 : Int) : Prop := (0 ≤ x1 ∧ x1 + 3 * x0.length ≤ 9223372036854775807) ∧ ∀ i : Nat, i < x0.length → x0.getD i (ByteArray.empty, (0 : Int), (0 : Int), ()) = (g46_0 (x1 + 3 * (i : Int)), (x1 + 3 * (i : Int) + 1), (x1 + 3 * (i : Int) + 1 + 1), ())
def g33_0 (x0 : List (ByteArray × Int × Int × Unit)) (x1 : Int) : Int := x1 + 3 * (x0.length : Int)

theorem top33 (x0 : List (ByteArray × Int × Int × Unit)) (x1 : Int) (hm : x0.length ≤ maxLen) (h : P33 x0 x1) : R33 (x0.length + 1 + 1) x0 x1 [⟨.int .i64, g33_0 x0 x1⟩] := by
  rw [R33]
  have := run33 x0 x1 hm h.1.1 h.1.2 h.2 x0.length 0 (by omega)
  simpa [g33_0] using this

def S33 : Am.Spec := { sig := sig33, pre := fun ⟨x0, x1, _⟩ => P33 x0 x1, res := fun ⟨x0, x1, _⟩ => [⟨.int .i64, g33_0 x0 x1⟩] }
theorem con33 : Contract Try.prog 33 S33 := contract_of Try.func33 hb33 (Nat.le_of_ble_eq_true (by kernel_rfl)) (fun ⟨x0, x1, _⟩ h hwf K q =>
  (snd33 _).1 x0 x1 _ (top33 x0 x1 hwf.1.1 h) K q)

end Go.Proofs.Ytleifkpekoinlaa

/- Function 26 (laws.markFareS): its runs between cut points. Written by a program of this repo (gen). -/
set_option linter.unusedVariables false
set_option linter.unusedSimpArgs false
set_option maxRecDepth 100000
namespace Go.Proofs.Ytleifkpekoinlaa
open Go Go.Am Go.Proofs
def ext26 : Ext := [(46, S46)]
theorem call26_46 : Callable Try.prog 46 := ⟨Try.f46, Try.func46, by kernel_rfl, by kernel_rfl⟩
theorem ext26Ok : ExtOk Try.prog ext26 := ⟨⟨call26_46, con46⟩, trivial⟩
/-! Function 26. -/
noncomputable def b26 : Code := bodyOf Try.f26
theorem hb26 : Try.f26.body = some b26 := by kernel_rfl
def sig26 : List AT := [AT.own (Ty.cons Ty.str (Ty.cons (Ty.int IntKind.i64) (Ty.cons (Ty.int IntKind.i64) (Ty.cons (Ty.int IntKind.i64) Ty.unit)))), AT.v (Ty.int IntKind.i64)]
def tys26 : List Ty := [Ty.int IntKind.i64]
def kds26 : List RK := []
def oks26 : List AT := owns sig26
def E26_2 (v5 : Int) (x1 : Int) (x0 : List (ByteArray × Int × Int × Int × Unit)) : Env := [(0, PV.a (Atom.osl 0 Option.none)), (1, PV.a (Atom.val (Value.int IntKind.i64 x1))), (5, PV.a (Atom.val (Value.int IntKind.i64 v5)))]
def L26_2 (v5 : Int) (x1 : Int) (x0 : List (ByteArray × Int × Int × Int × Unit)) : Heap := [Option.some (Arr.mk (Ty.cons Ty.str (Ty.cons (Ty.int IntKind.i64) (Ty.cons (Ty.int IntKind.i64) (Ty.cons (Ty.int IntKind.i64) Ty.unit)))) x0 Bool.false Option.none Option.none)]
mutual
def R26 : Nat → List (ByteArray × Int × Int × Int × Unit) → Int → List Dyn → List (Option Lst) → Prop
  | 0, _, _, _, _ => False
  | n + 1, x0, x1, ds, us => (R26_2 n (0) (x1) (x0) ds us)
def R26_2 : Nat → Int → Int → List (ByteArray × Int × Int × Int × Unit) → List Dyn → List (Option Lst) → Prop
  | 0, _, _, _, _, _ => False
  | n + 1, v5, x1, x0, ds, us => (if (Decidable.decide (v5 < (↑(List.length x0) : Int))) = true then ((0 ≤ v5) ∧ (v5 < (↑(List.length x0) : Int)) ∧ ((InR IntKind.i64 (x1 + 1)) ∧ ((0 ≤ v5) ∧ (v5 < (↑(List.length (List.set x0 (Int.toNat v5) (g46_0 x1, Prod.snd (List.getD x0 (Int.toNat v5) (ByteArray.empty, 0, 0, 0, ()))))) : Int)) ∧ ((InR IntKind.i64 (x1 + 1 + 1)) ∧ ((0 ≤ v5) ∧ (v5 < (↑(List.length (List.set (List.set x0 (Int.toNat v5) (g46_0 x1, Prod.snd (List.getD x0 (Int.toNat v5) (ByteArray.empty, 0, 0, 0, ())))) (Int.toNat v5) (Prod.fst (List.getD (List.set x0 (Int.toNat v5) (g46_0 x1, Prod.snd (List.getD x0 (Int.toNat v5) (ByteArray.empty, 0, 0, 0, ())))) (Int.toNat v5) (ByteArray.empty, 0, 0, 0, ())), x1 + 1, Prod.snd (Prod.snd (List.getD (List.set x0 (Int.toNat v5) (g46_0 x1, Prod.snd (List.getD x0 (Int.toNat v5) (ByteArray.empty, 0, 0, 0, ())))) (Int.toNat v5) (ByteArray.empty, 0, 0, 0, ())))))) : Int)) ∧ ((InR IntKind.i64 (x1 + 1 + 1 + 1)) ∧ ((0 ≤ v5) ∧ (v5 < (↑(List.length (List.set (List.set (List.set x0 (Int.toNat v5) (g46_0 x1, Prod.snd (List.getD x0 (Int.toNat v5) (ByteArray.empty, 0, 0, 0, ())))) (Int.toNat v5) (Prod.fst (List.getD (List.set x0 (Int.toNat v5) (g46_0 x1, Prod.snd (List.getD x0 (Int.toNat v5) (ByteArray.empty, 0, 0, 0, ())))) (Int.toNat v5) (ByteArray.empty, 0, 0, 0, ())), x1 + 1, Prod.snd (Prod.snd (List.getD (List.set x0 (Int.toNat v5) (g46_0 x1, Prod.snd (List.getD x0 (Int.toNat v5) (ByteArray.empty, 0, 0, 0, ())))) (Int.toNat v5) (ByteArray.empty, 0, 0, 0, ()))))) (Int.toNat v5) (Prod.fst (List.getD (List.set (List.set x0 (Int.toNat v5) (g46_0 x1, Prod.snd (List.getD x0 (Int.toNat v5) (ByteArray.empty, 0, 0, 0, ())))) (Int.toNat v5) (Prod.fst (List.getD (List.set x0 (Int.toNat v5) (g46_0 x1, Prod.snd (List.getD x0 (Int.toNat v5) (ByteArray.empty, 0, 0, 0, ())))) (Int.toNat v5) (ByteArray.empty, 0, 0, 0, ())), x1 + 1, Prod.snd (Prod.snd (List.getD (List.set x0 (Int.toNat v5) (g46_0 x1, Prod.snd (List.getD x0 (Int.toNat v5) (ByteArray.empty, 0, 0, 0, ())))) (Int.toNat v5) (ByteArray.empty, 0, 0, 0, ()))))) (Int.toNat v5) (ByteArray.empty, 0, 0, 0, ())), Prod.fst (Prod.snd (List.getD (List.set (List.set x0 (Int.toNat v5) (g46_0 x1, Prod.snd (List.getD x0 (Int.toNat v5) (ByteArray.empty, 0, 0, 0, ())))) (Int.toNat v5) (Prod.fst (List.getD (List.set x0 (Int.toNat v5) (g46_0 x1, Prod.snd (List.getD x0 (Int.toNat v5) (ByteArray.empty, 0, 0, 0, ())))) (Int.toNat v5) (ByteArray.empty, 0, 0, 0, ())), x1 + 1, Prod.snd (Prod.snd (List.getD (List.set x0 (Int.toNat v5) (g46_0 x1, Prod.snd (List.getD x0 (Int.toNat v5) (ByteArray.empty, 0, 0, 0, ())))) (Int.toNat v5) (ByteArray.empty, 0, 0, 0, ()))))) (Int.toNat v5) (ByteArray.empty, 0, 0, 0, ()))), x1 + 1 + 1, Prod.snd (Prod.snd (Prod.snd (List.getD (List.set (List.set x0 (Int.toNat v5) (g46_0 x1, Prod.snd (List.getD x0 (Int.toNat v5) (ByteArray.empty, 0, 0, 0, ())))) (Int.toNat v5) (Prod.fst (List.getD (List.set x0 (Int.toNat v5) (g46_0 x1, Prod.snd (List.getD x0 (Int.toNat v5) (ByteArray.empty, 0, 0, 0, ())))) (Int.toNat v5) (ByteArray.empty, 0, 0, 0, ())), x1 + 1, Prod.snd (Prod.snd (List.getD (List.set x0 (Int.toNat v5) (g46_0 x1, Prod.snd (List.getD x0 (Int.toNat v5) (ByteArray.empty, 0, 0, 0, ())))) (Int.toNat v5) (ByteArray.empty, 0, 0, 0, ()))))) (Int.toNat v5) (ByteArray.empty, 0, 0, 0, ()))))))) : Int)) ∧ ((InR IntKind.i64 (x1 + 1 + 1 + 1 + 1)) ∧ ((InR IntKind.i64 (v5 + 1)) ∧ (R26_2 n (v5 + 1) (x1 + 1 + 1 + 1 + 1) (List.set (List.set (List.set (List.set x0 (Int.toNat v5) (g46_0 x1, Prod.snd (List.getD x0 (Int.toNat v5) (ByteArray.empty, 0, 0, 0, ())))) (Int.toNat v5) (Prod.fst (List.getD (List.set x0 (Int.toNat v5) (g46_0 x1, Prod.snd (List.getD x0 (Int.toNat v5) (ByteArray.empty, 0, 0, 0, ())))) (Int.toNat v5) (ByteArray.empty, 0, 0, 0, ())), x1 + 1, Prod.snd (Prod.snd (List.getD (List.set x0 (Int.toNat v5) (g46_0 x1, Prod.snd (List.getD x0 (Int.toNat v5) (ByteArray.empty, 0, 0, 0, ())))) (Int.toNat v5) (ByteArray.empty, 0, 0, 0, ()))))) (Int.toNat v5) (Prod.fst (List.getD (List.set (List.set x0 (Int.toNat v5) (g46_0 x1, Prod.snd (List.getD x0 (Int.toNat v5) (ByteArray.empty, 0, 0, 0, ())))) (Int.toNat v5) (Prod.fst (List.getD (List.set x0 (Int.toNat v5) (g46_0 x1, Prod.snd (List.getD x0 (Int.toNat v5) (ByteArray.empty, 0, 0, 0, ())))) (Int.toNat v5) (ByteArray.empty, 0, 0, 0, ())), x1 + 1, Prod.snd (Prod.snd (List.getD (List.set x0 (Int.toNat v5) (g46_0 x1, Prod.snd (List.getD x0 (Int.toNat v5) (ByteArray.empty, 0, 0, 0, ())))) (Int.toNat v5) (ByteArray.empty, 0, 0, 0, ()))))) (Int.toNat v5) (ByteArray.empty, 0, 0, 0, ())), Prod.fst (Prod.snd (List.getD (List.set (List.set x0 (Int.toNat v5) (g46_0 x1, Prod.snd (List.getD x0 (Int.toNat v5) (ByteArray.empty, 0, 0, 0, ())))) (Int.toNat v5) (Prod.fst (List.getD (List.set x0 (Int.toNat v5) (g46_0 x1, Prod.snd (List.getD x0 (Int.toNat v5) (ByteArray.empty, 0, 0, 0, ())))) (Int.toNat v5) (ByteArray.empty, 0, 0, 0, ())), x1 + 1, Prod.snd (Prod.snd (List.getD (List.set x0 (Int.toNat v5) (g46_0 x1, Prod.snd (List.getD x0 (Int.toNat v5) (ByteArray.empty, 0, 0, 0, ())))) (Int.toNat v5) (ByteArray.empty, 0, 0, 0, ()))))) (Int.toNat v5) (ByteArray.empty, 0, 0, 0, ()))), x1 + 1 + 1, Prod.snd (Prod.snd (Prod.snd (List.getD (List.set (List.set x0 (Int.toNat v5) (g46_0 x1, Prod.snd (List.getD x0 (Int.toNat v5) (ByteArray.empty, 0, 0, 0, ())))) (Int.toNat v5) (Prod.fst (List.getD (List.set x0 (Int.toNat v5) (g46_0 x1, Prod.snd (List.getD x0 (Int.toNat v5) (ByteArray.empty, 0, 0, 0, ())))) (Int.toNat v5) (ByteArray.empty, 0, 0, 0, ())), x1 + 1, Prod.snd (Prod.snd (List.getD (List.set x0 (Int.toNat v5) (g46_0 x1, Prod.snd (List.getD x0 (Int.toNat v5) (ByteArray.empty, 0, 0, 0, ())))) (Int.toNat v5) (ByteArray.empty, 0, 0, 0, ()))))) (Int.toNat v5) (ByteArray.empty, 0, 0, 0, ())))))) (Int.toNat v5) (Prod.fst (List.getD (List.set (List.set (List.set x0 (Int.toNat v5) (g46_0 x1, Prod.snd (List.getD x0 (Int.toNat v5) (ByteArray.empty, 0, 0, 0, ())))) (Int.toNat v5) (Prod.fst (List.getD (List.set x0 (Int.toNat v5) (g46_0 x1, Prod.snd (List.getD x0 (Int.toNat v5) (ByteArray.empty, 0, 0, 0, ())))) (Int.toNat v5) (ByteArray.empty, 0, 0, 0, ())), x1 + 1, Prod.snd (Prod.snd (List.getD (List.set x0 (Int.toNat v5) (g46_0 x1, Prod.snd (List.getD x0 (Int.toNat v5) (ByteArray.empty, 0, 0, 0, ())))) (Int.toNat v5) (ByteArray.empty, 0, 0, 0, ()))))) (Int.toNat v5) (Prod.fst (List.getD (List.set (List.set x0 (Int.toNat v5) (g46_0 x1, Prod.snd (List.getD x0 (Int.toNat v5) (ByteArray.empty, 0, 0, 0, ())))) (Int.toNat v5) (Prod.fst (List.getD (List.set x0 (Int.toNat v5) (g46_0 x1, Prod.snd (List.getD x0 (Int.toNat v5) (ByteArray.empty, 0, 0, 0, ())))) (Int.toNat v5) (ByteArray.empty, 0, 0, 0, ())), x1 + 1, Prod.snd (Prod.snd (List.getD (List.set x0 (Int.toNat v5) (g46_0 x1, Prod.snd (List.getD x0 (Int.toNat v5) (ByteArray.empty, 0, 0, 0, ())))) (Int.toNat v5) (ByteArray.empty, 0, 0, 0, ()))))) (Int.toNat v5) (ByteArray.empty, 0, 0, 0, ())), Prod.fst (Prod.snd (List.getD (List.set (List.set x0 (Int.toNat v5) (g46_0 x1, Prod.snd (List.getD x0 (Int.toNat v5) (ByteArray.empty, 0, 0, 0, ())))) (Int.toNat v5) (Prod.fst (List.getD (List.set x0 (Int.toNat v5) (g46_0 x1, Prod.snd (List.getD x0 (Int.toNat v5) (ByteArray.empty, 0, 0, 0, ())))) (Int.toNat v5) (ByteArray.empty, 0, 0, 0, ())), x1 + 1, Prod.snd (Prod.snd (List.getD (List.set x0 (Int.toNat v5) (g46_0 x1, Prod.snd (List.getD x0 (Int.toNat v5) (ByteArray.empty, 0, 0, 0, ())))) (Int.toNat v5) (ByteArray.empty, 0, 0, 0, ()))))) (Int.toNat v5) (ByteArray.empty, 0, 0, 0, ()))), x1 + 1 + 1, Prod.snd (Prod.snd (Prod.snd (List.getD (List.set (List.set x0 (Int.toNat v5) (g46_0 x1, Prod.snd (List.getD x0 (Int.toNat v5) (ByteArray.empty, 0, 0, 0, ())))) (Int.toNat v5) (Prod.fst (List.getD (List.set x0 (Int.toNat v5) (g46_0 x1, Prod.snd (List.getD x0 (Int.toNat v5) (ByteArray.empty, 0, 0, 0, ())))) (Int.toNat v5) (ByteArray.empty, 0, 0, 0, ())), x1 + 1, Prod.snd (Prod.snd (List.getD (List.set x0 (Int.toNat v5) (g46_0 x1, Prod.snd (List.getD x0 (Int.toNat v5) (ByteArray.empty, 0, 0, 0, ())))) (Int.toNat v5) (ByteArray.empty, 0, 0, 0, ()))))) (Int.toNat v5) (ByteArray.empty, 0, 0, 0, ())))))) (Int.toNat v5) (ByteArray.empty, 0, 0, 0, ())), Prod.fst (Prod.snd (List.getD (List.set (List.set (List.set x0 (Int.toNat v5) (g46_0 x1, Prod.snd (List.getD x0 (Int.toNat v5) (ByteArray.empty, 0, 0, 0, ())))) (Int.toNat v5) (Prod.fst (List.getD (List.set x0 (Int.toNat v5) (g46_0 x1, Prod.snd (List.getD x0 (Int.toNat v5) (ByteArray.empty, 0, 0, 0, ())))) (Int.toNat v5) (ByteArray.empty, 0, 0, 0, ())), x1 + 1, Prod.snd (Prod.snd (List.getD (List.set x0 (Int.toNat v5) (g46_0 x1, Prod.snd (List.getD x0 (Int.toNat v5) (ByteArray.empty, 0, 0, 0, ())))) (Int.toNat v5) (ByteArray.empty, 0, 0, 0, ()))))) (Int.toNat v5) (Prod.fst (List.getD (List.set (List.set x0 (Int.toNat v5) (g46_0 x1, Prod.snd (List.getD x0 (Int.toNat v5) (ByteArray.empty, 0, 0, 0, ())))) (Int.toNat v5) (Prod.fst (List.getD (List.set x0 (Int.toNat v5) (g46_0 x1, Prod.snd (List.getD x0 (Int.toNat v5) (ByteArray.empty, 0, 0, 0, ())))) (Int.toNat v5) (ByteArray.empty, 0, 0, 0, ())), x1 + 1, Prod.snd (Prod.snd (List.getD (List.set x0 (Int.toNat v5) (g46_0 x1, Prod.snd (List.getD x0 (Int.toNat v5) (ByteArray.empty, 0, 0, 0, ())))) (Int.toNat v5) (ByteArray.empty, 0, 0, 0, ()))))) (Int.toNat v5) (ByteArray.empty, 0, 0, 0, ())), Prod.fst (Prod.snd (List.getD (List.set (List.set x0 (Int.toNat v5) (g46_0 x1, Prod.snd (List.getD x0 (Int.toNat v5) (ByteArray.empty, 0, 0, 0, ())))) (Int.toNat v5) (Prod.fst (List.getD (List.set x0 (Int.toNat v5) (g46_0 x1, Prod.snd (List.getD x0 (Int.toNat v5) (ByteArray.empty, 0, 0, 0, ())))) (Int.toNat v5) (ByteArray.empty, 0, 0, 0, ())), x1 + 1, Prod.snd (Prod.snd (List.getD (List.set x0 (Int.toNat v5) (g46_0 x1, Prod.snd (List.getD x0 (Int.toNat v5) (ByteArray.empty, 0, 0, 0, ())))) (Int.toNat v5) (ByteArray.empty, 0, 0, 0, ()))))) (Int.toNat v5) (ByteArray.empty, 0, 0, 0, ()))), x1 + 1 + 1, Prod.snd (Prod.snd (Prod.snd (List.getD (List.set (List.set x0 (Int.toNat v5) (g46_0 x1, Prod.snd (List.getD x0 (Int.toNat v5) (ByteArray.empty, 0, 0, 0, ())))) (Int.toNat v5) (Prod.fst (List.getD (List.set x0 (Int.toNat v5) (g46_0 x1, Prod.snd (List.getD x0 (Int.toNat v5) (ByteArray.empty, 0, 0, 0, ())))) (Int.toNat v5) (ByteArray.empty, 0, 0, 0, ())), x1 + 1, Prod.snd (Prod.snd (List.getD (List.set x0 (Int.toNat v5) (g46_0 x1, Prod.snd (List.getD x0 (Int.toNat v5) (ByteArray.empty, 0, 0, 0, ())))) (Int.toNat v5) (ByteArray.empty, 0, 0, 0, ()))))) (Int.toNat v5) (ByteArray.empty, 0, 0, 0, ())))))) (Int.toNat v5) (ByteArray.empty, 0, 0, 0, ()))), Prod.fst (Prod.snd (Prod.snd (List.getD (List.set (List.set (List.set x0 (Int.toNat v5) (g46_0 x1, Prod.snd (List.getD x0 (Int.toNat v5) (ByteArray.empty, 0, 0, 0, ())))) (Int.toNat v5) (Prod.fst (List.getD (List.set x0 (Int.toNat v5) (g46_0 x1, Prod.snd (List.getD x0 (Int.toNat v5) (ByteArray.empty, 0, 0, 0, ())))) (Int.toNat v5) (ByteArray.empty, 0, 0, 0, ())), x1 + 1, Prod.snd (Prod.snd (List.getD (List.set x0 (Int.toNat v5) (g46_0 x1, Prod.snd (List.getD x0 (Int.toNat v5) (ByteArray.empty, 0, 0, 0, ())))) (Int.toNat v5) (ByteArray.empty, 0, 0, 0, ()))))) (Int.toNat v5) (Prod.fst (List.getD (List.set (List.set x0 (Int.toNat v5) (g46_0 x1, Prod.snd (List.getD x0 (Int.toNat v5) (ByteArray.empty, 0, 0, 0, ())))) (Int.toNat v5) (Prod.fst (List.getD (List.set x0 (Int.toNat v5) (g46_0 x1, Prod.snd (List.getD x0 (Int.toNat v5) (ByteArray.empty, 0, 0, 0, ())))) (Int.toNat v5) (ByteArray.empty, 0, 0, 0, ())), x1 + 1, Prod.snd (Prod.snd (List.getD (List.set x0 (Int.toNat v5) (g46_0 x1, Prod.snd (List.getD x0 (Int.toNat v5) (ByteArray.empty, 0, 0, 0, ())))) (Int.toNat v5) (ByteArray.empty, 0, 0, 0, ()))))) (Int.toNat v5) (ByteArray.empty, 0, 0, 0, ())), Prod.fst (Prod.snd (List.getD (List.set (List.set x0 (Int.toNat v5) (g46_0 x1, Prod.snd (List.getD x0 (Int.toNat v5) (ByteArray.empty, 0, 0, 0, ())))) (Int.toNat v5) (Prod.fst (List.getD (List.set x0 (Int.toNat v5) (g46_0 x1, Prod.snd (List.getD x0 (Int.toNat v5) (ByteArray.empty, 0, 0, 0, ())))) (Int.toNat v5) (ByteArray.empty, 0, 0, 0, ())), x1 + 1, Prod.snd (Prod.snd (List.getD (List.set x0 (Int.toNat v5) (g46_0 x1, Prod.snd (List.getD x0 (Int.toNat v5) (ByteArray.empty, 0, 0, 0, ())))) (Int.toNat v5) (ByteArray.empty, 0, 0, 0, ()))))) (Int.toNat v5) (ByteArray.empty, 0, 0, 0, ()))), x1 + 1 + 1, Prod.snd (Prod.snd (Prod.snd (List.getD (List.set (List.set x0 (Int.toNat v5) (g46_0 x1, Prod.snd (List.getD x0 (Int.toNat v5) (ByteArray.empty, 0, 0, 0, ())))) (Int.toNat v5) (Prod.fst (List.getD (List.set x0 (Int.toNat v5) (g46_0 x1, Prod.snd (List.getD x0 (Int.toNat v5) (ByteArray.empty, 0, 0, 0, ())))) (Int.toNat v5) (ByteArray.empty, 0, 0, 0, ())), x1 + 1, Prod.snd (Prod.snd (List.getD (List.set x0 (Int.toNat v5) (g46_0 x1, Prod.snd (List.getD x0 (Int.toNat v5) (ByteArray.empty, 0, 0, 0, ())))) (Int.toNat v5) (ByteArray.empty, 0, 0, 0, ()))))) (Int.toNat v5) (ByteArray.empty, 0, 0, 0, ())))))) (Int.toNat v5) (ByteArray.empty, 0, 0, 0, ())))), x1 + 1 + 1 + 1, Prod.snd (Prod.snd (Prod.snd (Prod.snd (List.getD (List.set (List.set (List.set x0 (Int.toNat v5) (g46_0 x1, Prod.snd (List.getD x0 (Int.toNat v5) (ByteArray.empty, 0, 0, 0, ())))) (Int.toNat v5) (Prod.fst (List.getD (List.set x0 (Int.toNat v5) (g46_0 x1, Prod.snd (List.getD x0 (Int.toNat v5) (ByteArray.empty, 0, 0, 0, ())))) (Int.toNat v5) (ByteArray.empty, 0, 0, 0, ())), x1 + 1, Prod.snd (Prod.snd (List.getD (List.set x0 (Int.toNat v5) (g46_0 x1, Prod.snd (List.getD x0 (Int.toNat v5) (ByteArray.empty, 0, 0, 0, ())))) (Int.toNat v5) (ByteArray.empty, 0, 0, 0, ()))))) (Int.toNat v5) (Prod.fst (List.getD (List.set (List.set x0 (Int.toNat v5) (g46_0 x1, Prod.snd (List.getD x0 (Int.toNat v5) (ByteArray.empty, 0, 0, 0, ())))) (Int.toNat v5) (Prod.fst (List.getD (List.set x0 (Int.toNat v5) (g46_0 x1, Prod.snd (List.getD x0 (Int.toNat v5) (ByteArray.empty, 0, 0, 0, ())))) (Int.toNat v5) (ByteArray.empty, 0, 0, 0, ())), x1 + 1, Prod.snd (Prod.snd (List.getD (List.set x0 (Int.toNat v5) (g46_0 x1, Prod.snd (List.getD x0 (Int.toNat v5) (ByteArray.empty, 0, 0, 0, ())))) (Int.toNat v5) (ByteArray.empty, 0, 0, 0, ()))))) (Int.toNat v5) (ByteArray.empty, 0, 0, 0, ())), Prod.fst (Prod.snd (List.getD (List.set (List.set x0 (Int.toNat v5) (g46_0 x1, Prod.snd (List.getD x0 (Int.toNat v5) (ByteArray.empty, 0, 0, 0, ())))) (Int.toNat v5) (Prod.fst (List.getD (List.set x0 (Int.toNat v5) (g46_0 x1, Prod.snd (List.getD x0 (Int.toNat v5) (ByteArray.empty, 0, 0, 0, ())))) (Int.toNat v5) (ByteArray.empty, 0, 0, 0, ())), x1 + 1, Prod.snd (Prod.snd (List.getD (List.set x0 (Int.toNat v5) (g46_0 x1, Prod.snd (List.getD x0 (Int.toNat v5) (ByteArray.empty, 0, 0, 0, ())))) (Int.toNat v5) (ByteArray.empty, 0, 0, 0, ()))))) (Int.toNat v5) (ByteArray.empty, 0, 0, 0, ()))), x1 + 1 + 1, Prod.snd (Prod.snd (Prod.snd (List.getD (List.set (List.set x0 (Int.toNat v5) (g46_0 x1, Prod.snd (List.getD x0 (Int.toNat v5) (ByteArray.empty, 0, 0, 0, ())))) (Int.toNat v5) (Prod.fst (List.getD (List.set x0 (Int.toNat v5) (g46_0 x1, Prod.snd (List.getD x0 (Int.toNat v5) (ByteArray.empty, 0, 0, 0, ())))) (Int.toNat v5) (ByteArray.empty, 0, 0, 0, ())), x1 + 1, Prod.snd (Prod.snd (List.getD (List.set x0 (Int.toNat v5) (g46_0 x1, Prod.snd (List.getD x0 (Int.toNat v5) (ByteArray.empty, 0, 0, 0, ())))) (Int.toNat v5) (ByteArray.empty, 0, 0, 0, ()))))) (Int.toNat v5) (ByteArray.empty, 0, 0, 0, ())))))) (Int.toNat v5) (ByteArray.empty, 0, 0, 0, ()))))))) ds us)))))))))) else (ds = [Dyn.mk (Ty.int IntKind.i64) x1] ∧ us = [Option.some (Lst.mk (Ty.cons Ty.str (Ty.cons (Ty.int IntKind.i64) (Ty.cons (Ty.int IntKind.i64) (Ty.cons (Ty.int IntKind.i64) Ty.unit)))) x0)]))
end
theorem p26_0 (x0 : List (ByteArray × Int × Int × Int × Unit)) (x1 : Int) : Am.runN tab ext26 false 42 [] 2000 [0] [] [0, 1, 5] [0] [] [.code b26] (entE 0 0 sig26 (x0, x1, ())) (entL sig26 (x0, x1, ())) = some (cutAt b26 2, E26_2 (0) (x1) (x0), L26_2 (0) (x1) (x0), []) := by kernel_rfl
theorem p26_1 (v5 : Int) (x1 : Int) (x0 : List (ByteArray × Int × Int × Int × Unit)) : Am.runN tab ext26 false 42 [] 2000 [0] [] [0, 1, 5] [0] [true] (cutAt b26 2) (E26_2 v5 x1 x0) (L26_2 v5 x1 x0) = some (cutAt b26 2, E26_2 (v5 + 1) (x1 + 1 + 1 + 1 + 1) (List.set (List.set (List.set (List.set x0 (Int.toNat v5) (g46_0 x1, Prod.snd (List.getD x0 (Int.toNat v5) (ByteArray.empty, 0, 0, 0, ())))) (Int.toNat v5) (Prod.fst (List.getD (List.set x0 (Int.toNat v5) (g46_0 x1, Prod.snd (List.getD x0 (Int.toNat v5) (ByteArray.empty, 0, 0, 0, ())))) (Int.toNat v5) (ByteArray.empty, 0, 0, 0, ())), x1 + 1, Prod.snd (Prod.snd (List.getD (List.set x0 (Int.toNat v5) (g46_0 x1, Prod.snd (List.getD x0 (Int.toNat v5) (ByteArray.empty, 0, 0, 0, ())))) (Int.toNat v5) (ByteArray.empty, 0, 0, 0, ()))))) (Int.toNat v5) (Prod.fst (List.getD (List.set (List.set x0 (Int.toNat v5) (g46_0 x1, Prod.snd (List.getD x0 (Int.toNat v5) (ByteArray.empty, 0, 0, 0, ())))) (Int.toNat v5) (Prod.fst (List.getD (List.set x0 (Int.toNat v5) (g46_0 x1, Prod.snd (List.getD x0 (Int.toNat v5) (ByteArray.empty, 0, 0, 0, ())))) (Int.toNat v5) (ByteArray.empty, 0, 0, 0, ())), x1 + 1, Prod.snd (Prod.snd (List.getD (List.set x0 (Int.toNat v5) (g46_0 x1, Prod.snd (List.getD x0 (Int.toNat v5) (ByteArray.empty, 0, 0, 0, ())))) (Int.toNat v5) (ByteArray.empty, 0, 0, 0, ()))))) (Int.toNat v5) (ByteArray.empty, 0, 0, 0, ())), Prod.fst (Prod.snd (List.getD (List.set (List.set x0 (Int.toNat v5) (g46_0 x1, Prod.snd (List.getD x0 (Int.toNat v5) (ByteArray.empty, 0, 0, 0, ())))) (Int.toNat v5) (Prod.fst (List.getD (List.set x0 (Int.toNat v5) (g46_0 x1, Prod.snd (List.getD x0 (Int.toNat v5) (ByteArray.empty, 0, 0, 0, ())))) (Int.toNat v5) (ByteArray.empty, 0, 0, 0, ())), x1 + 1, Prod.snd (Prod.snd (List.getD (List.set x0 (Int.toNat v5) (g46_0 x1, Prod.snd (List.getD x0 (Int.toNat v5) (ByteArray.empty, 0, 0, 0, ())))) (Int.toNat v5) (ByteArray.empty, 0, 0, 0, ()))))) (Int.toNat v5) (ByteArray.empty, 0, 0, 0, ()))), x1 + 1 + 1, Prod.snd (Prod.snd (Prod.snd (List.getD (List.set (List.set x0 (Int.toNat v5) (g46_0 x1, Prod.snd (List.getD x0 (Int.toNat v5) (ByteArray.empty, 0, 0, 0, ())))) (Int.toNat v5) (Prod.fst (List.getD (List.set x0 (Int.toNat v5) (g46_0 x1, Prod.snd (List.getD x0 (Int.toNat v5) (ByteArray.empty, 0, 0, 0, ())))) (Int.toNat v5) (ByteArray.empty, 0, 0, 0, ())), x1 + 1, Prod.snd (Prod.snd (List.getD (List.set x0 (Int.toNat v5) (g46_0 x1, Prod.snd (List.getD x0 (Int.toNat v5) (ByteArray.empty, 0, 0, 0, ())))) (Int.toNat v5) (ByteArray.empty, 0, 0, 0, ()))))) (Int.toNat v5) (ByteArray.empty, 0, 0, 0, ())))))) (Int.toNat v5) (Prod.fst (List.getD (List.set (List.set (List.set x0 (Int.toNat v5) (g46_0 x1, Prod.snd (List.getD x0 (Int.toNat v5) (ByteArray.empty, 0, 0, 0, ())))) (Int.toNat v5) (Prod.fst (List.getD (List.set x0 (Int.toNat v5) (g46_0 x1, Prod.snd (List.getD x0 (Int.toNat v5) (ByteArray.empty, 0, 0, 0, ())))) (Int.toNat v5) (ByteArray.empty, 0, 0, 0, ())), x1 + 1, Prod.snd (Prod.snd (List.getD (List.set x0 (Int.toNat v5) (g46_0 x1, Prod.snd (List.getD x0 (Int.toNat v5) (ByteArray.empty, 0, 0, 0, ())))) (Int.toNat v5) (ByteArray.empty, 0, 0, 0, ()))))) (Int.toNat v5) (Prod.fst (List.getD (List.set (List.set x0 (Int.toNat v5) (g46_0 x1, Prod.snd (List.getD x0 (Int.toNat v5) (ByteArray.empty, 0, 0, 0, ())))) (Int.toNat v5) (Prod.fst (List.getD (List.set x0 (Int.toNat v5) (g46_0 x1, Prod.snd (List.getD x0 (Int.toNat v5) (ByteArray.empty, 0, 0, 0, ())))) (Int.toNat v5) (ByteArray.empty, 0, 0, 0, ())), x1 + 1, Prod.snd (Prod.snd (List.getD (List.set x0 (Int.toNat v5) (g46_0 x1, Prod.snd (List.getD x0 (Int.toNat v5) (ByteArray.empty, 0, 0, 0, ())))) (Int.toNat v5) (ByteArray.empty, 0, 0, 0, ()))))) (Int.toNat v5) (ByteArray.empty, 0, 0, 0, ())), Prod.fst (Prod.snd (List.getD (List.set (List.set x0 (Int.toNat v5) (g46_0 x1, Prod.snd (List.getD x0 (Int.toNat v5) (ByteArray.empty, 0, 0, 0, ())))) (Int.toNat v5) (Prod.fst (List.getD (List.set x0 (Int.toNat v5) (g46_0 x1, Prod.snd (List.getD x0 (Int.toNat v5) (ByteArray.empty, 0, 0, 0, ())))) (Int.toNat v5) (ByteArray.empty, 0, 0, 0, ())), x1 + 1, Prod.snd (Prod.snd (List.getD (List.set x0 (Int.toNat v5) (g46_0 x1, Prod.snd (List.getD x0 (Int.toNat v5) (ByteArray.empty, 0, 0, 0, ())))) (Int.toNat v5) (ByteArray.empty, 0, 0, 0, ()))))) (Int.toNat v5) (ByteArray.empty, 0, 0, 0, ()))), x1 + 1 + 1, Prod.snd (Prod.snd (Prod.snd (List.getD (List.set (List.set x0 (Int.toNat v5) (g46_0 x1, Prod.snd (List.getD x0 (Int.toNat v5) (ByteArray.empty, 0, 0, 0, ())))) (Int.toNat v5) (Prod.fst (List.getD (List.set x0 (Int.toNat v5) (g46_0 x1, Prod.snd (List.getD x0 (Int.toNat v5) (ByteArray.empty, 0, 0, 0, ())))) (Int.toNat v5) (ByteArray.empty, 0, 0, 0, ())), x1 + 1, Prod.snd (Prod.snd (List.getD (List.set x0 (Int.toNat v5) (g46_0 x1, Prod.snd (List.getD x0 (Int.toNat v5) (ByteArray.empty, 0, 0, 0, ())))) (Int.toNat v5) (ByteArray.empty, 0, 0, 0, ()))))) (Int.toNat v5) (ByteArray.empty, 0, 0, 0, ())))))) (Int.toNat v5) (ByteArray.empty, 0, 0, 0, ())), Prod.fst (Prod.snd (List.getD (List.set (List.set (List.set x0 (Int.toNat v5) (g46_0 x1, Prod.snd (List.getD x0 (Int.toNat v5) (ByteArray.empty, 0, 0, 0, ())))) (Int.toNat v5) (Prod.fst (List.getD (List.set x0 (Int.toNat v5) (g46_0 x1, Prod.snd (List.getD x0 (Int.toNat v5) (ByteArray.empty, 0, 0, 0, ())))) (Int.toNat v5) (ByteArray.empty, 0, 0, 0, ())), x1 + 1, Prod.snd (Prod.snd (List.getD (List.set x0 (Int.toNat v5) (g46_0 x1, Prod.snd (List.getD x0 (Int.toNat v5) (ByteArray.empty, 0, 0, 0, ())))) (Int.toNat v5) (ByteArray.empty, 0, 0, 0, ()))))) (Int.toNat v5) (Prod.fst (List.getD (List.set (List.set x0 (Int.toNat v5) (g46_0 x1, Prod.snd (List.getD x0 (Int.toNat v5) (ByteArray.empty, 0, 0, 0, ())))) (Int.toNat v5) (Prod.fst (List.getD (List.set x0 (Int.toNat v5) (g46_0 x1, Prod.snd (List.getD x0 (Int.toNat v5) (ByteArray.empty, 0, 0, 0, ())))) (Int.toNat v5) (ByteArray.empty, 0, 0, 0, ())), x1 + 1, Prod.snd (Prod.snd (List.getD (List.set x0 (Int.toNat v5) (g46_0 x1, Prod.snd (List.getD x0 (Int.toNat v5) (ByteArray.empty, 0, 0, 0, ())))) (Int.toNat v5) (ByteArray.empty, 0, 0, 0, ()))))) (Int.toNat v5) (ByteArray.empty, 0, 0, 0, ())), Prod.fst (Prod.snd (List.getD (List.set (List.set x0 (Int.toNat v5) (g46_0 x1, Prod.snd (List.getD x0 (Int.toNat v5) (ByteArray.empty, 0, 0, 0, ())))) (Int.toNat v5) (Prod.fst (List.getD (List.set x0 (Int.toNat v5) (g46_0 x1, Prod.snd (List.getD x0 (Int.toNat v5) (ByteArray.empty, 0, 0, 0, ())))) (Int.toNat v5) (ByteArray.empty, 0, 0, 0, ())), x1 + 1, Prod.snd (Prod.snd (List.getD (List.set x0 (Int.toNat v5) (g46_0 x1, Prod.snd (List.getD x0 (Int.toNat v5) (ByteArray.empty, 0, 0, 0, ())))) (Int.toNat v5) (ByteArray.empty, 0, 0, 0, ()))))) (Int.toNat v5) (ByteArray.empty, 0, 0, 0, ()))), x1 + 1 + 1, Prod.snd (Prod.snd (Prod.snd (List.getD (List.set (List.set x0 (Int.toNat v5) (g46_0 x1, Prod.snd (List.getD x0 (Int.toNat v5) (ByteArray.empty, 0, 0, 0, ())))) (Int.toNat v5) (Prod.fst (List.getD (List.set x0 (Int.toNat v5) (g46_0 x1, Prod.snd (List.getD x0 (Int.toNat v5) (ByteArray.empty, 0, 0, 0, ())))) (Int.toNat v5) (ByteArray.empty, 0, 0, 0, ())), x1 + 1, Prod.snd (Prod.snd (List.getD (List.set x0 (Int.toNat v5) (g46_0 x1, Prod.snd (List.getD x0 (Int.toNat v5) (ByteArray.empty, 0, 0, 0, ())))) (Int.toNat v5) (ByteArray.empty, 0, 0, 0, ()))))) (Int.toNat v5) (ByteArray.empty, 0, 0, 0, ())))))) (Int.toNat v5) (ByteArray.empty, 0, 0, 0, ()))), Prod.fst (Prod.snd (Prod.snd (List.getD (List.set (List.set (List.set x0 (Int.toNat v5) (g46_0 x1, Prod.snd (List.getD x0 (Int.toNat v5) (ByteArray.empty, 0, 0, 0, ())))) (Int.toNat v5) (Prod.fst (List.getD (List.set x0 (Int.toNat v5) (g46_0 x1, Prod.snd (List.getD x0 (Int.toNat v5) (ByteArray.empty, 0, 0, 0, ())))) (Int.toNat v5) (ByteArray.empty, 0, 0, 0, ())), x1 + 1, Prod.snd (Prod.snd (List.getD (List.set x0 (Int.toNat v5) (g46_0 x1, Prod.snd (List.getD x0 (Int.toNat v5) (ByteArray.empty, 0, 0, 0, ())))) (Int.toNat v5) (ByteArray.empty, 0, 0, 0, ()))))) (Int.toNat v5) (Prod.fst (List.getD (List.set (List.set x0 (Int.toNat v5) (g46_0 x1, Prod.snd (List.getD x0 (Int.toNat v5) (ByteArray.empty, 0, 0, 0, ())))) (Int.toNat v5) (Prod.fst (List.getD (List.set x0 (Int.toNat v5) (g46_0 x1, Prod.snd (List.getD x0 (Int.toNat v5) (ByteArray.empty, 0, 0, 0, ())))) (Int.toNat v5) (ByteArray.empty, 0, 0, 0, ())), x1 + 1, Prod.snd (Prod.snd (List.getD (List.set x0 (Int.toNat v5) (g46_0 x1, Prod.snd (List.getD x0 (Int.toNat v5) (ByteArray.empty, 0, 0, 0, ())))) (Int.toNat v5) (ByteArray.empty, 0, 0, 0, ()))))) (Int.toNat v5) (ByteArray.empty, 0, 0, 0, ())), Prod.fst (Prod.snd (List.getD (List.set (List.set x0 (Int.toNat v5) (g46_0 x1, Prod.snd (List.getD x0 (Int.toNat v5) (ByteArray.empty, 0, 0, 0, ())))) (Int.toNat v5) (Prod.fst (List.getD (List.set x0 (Int.toNat v5) (g46_0 x1, Prod.snd (List.getD x0 (Int.toNat v5) (ByteArray.empty, 0, 0, 0, ())))) (Int.toNat v5) (ByteArray.empty, 0, 0, 0, ())), x1 + 1, Prod.snd (Prod.snd (List.getD (List.set x0 (Int.toNat v5) (g46_0 x1, Prod.snd (List.getD x0 (Int.toNat v5) (ByteArray.empty, 0, 0, 0, ())))) (Int.toNat v5) (ByteArray.empty, 0, 0, 0, ()))))) (Int.toNat v5) (ByteArray.empty, 0, 0, 0, ()))), x1 + 1 + 1, Prod.snd (Prod.snd (Prod.snd (List.getD (List.set (List.set x0 (Int.toNat v5) (g46_0 x1, Prod.snd (List.getD x0 (Int.toNat v5) (ByteArray.empty, 0, 0, 0, ())))) (Int.toNat v5) (Prod.fst (List.getD (List.set x0 (Int.toNat v5) (g46_0 x1, Prod.snd (List.getD x0 (Int.toNat v5) (ByteArray.empty, 0, 0, 0, ())))) (Int.toNat v5) (ByteArray.empty, 0, 0, 0, ())), x1 + 1, Prod.snd (Prod.snd (List.getD (List.set x0 (Int.toNat v5) (g46_0 x1, Prod.snd (List.getD x0 (Int.toNat v5) (ByteArray.empty, 0, 0, 0, ())))) (Int.toNat v5) (ByteArray.empty, 0, 0, 0, ()))))) (Int.toNat v5) (ByteArray.empty, 0, 0, 0, ())))))) (Int.toNat v5) (ByteArray.empty, 0, 0, 0, ())))), x1 + 1 + 1 + 1, Prod.snd (Prod.snd (Prod.snd (Prod.snd (List.getD (List.set (List.set (List.set x0 (Int.toNat v5) (g46_0 x1, Prod.snd (List.getD x0 (Int.toNat v5) (ByteArray.empty, 0, 0, 0, ())))) (Int.toNat v5) (Prod.fst (List.getD (List.set x0 (Int.toNat v5) (g46_0 x1, Prod.snd (List.getD x0 (Int.toNat v5) (ByteArray.empty, 0, 0, 0, ())))) (Int.toNat v5) (ByteArray.empty, 0, 0, 0, ())), x1 + 1, Prod.snd (Prod.snd (List.getD (List.set x0 (Int.toNat v5) (g46_0 x1, Prod.snd (List.getD x0 (Int.toNat v5) (ByteArray.empty, 0, 0, 0, ())))) (Int.toNat v5) (ByteArray.empty, 0, 0, 0, ()))))) (Int.toNat v5) (Prod.fst (List.getD (List.set (List.set x0 (Int.toNat v5) (g46_0 x1, Prod.snd (List.getD x0 (Int.toNat v5) (ByteArray.empty, 0, 0, 0, ())))) (Int.toNat v5) (Prod.fst (List.getD (List.set x0 (Int.toNat v5) (g46_0 x1, Prod.snd (List.getD x0 (Int.toNat v5) (ByteArray.empty, 0, 0, 0, ())))) (Int.toNat v5) (ByteArray.empty, 0, 0, 0, ())), x1 + 1, Prod.snd (Prod.snd (List.getD (List.set x0 (Int.toNat v5) (g46_0 x1, Prod.snd (List.getD x0 (Int.toNat v5) (ByteArray.empty, 0, 0, 0, ())))) (Int.toNat v5) (ByteArray.empty, 0, 0, 0, ()))))) (Int.toNat v5) (ByteArray.empty, 0, 0, 0, ())), Prod.fst (Prod.snd (List.getD (List.set (List.set x0 (Int.toNat v5) (g46_0 x1, Prod.snd (List.getD x0 (Int.toNat v5) (ByteArray.empty, 0, 0, 0, ())))) (Int.toNat v5) (Prod.fst (List.getD (List.set x0 (Int.toNat v5) (g46_0 x1, Prod.snd (List.getD x0 (Int.toNat v5) (ByteArray.empty, 0, 0, 0, ())))) (Int.toNat v5) (ByteArray.empty, 0, 0, 0, ())), x1 + 1, Prod.snd (Prod.snd (List.getD (List.set x0 (Int.toNat v5) (g46_0 x1, Prod.snd (List.getD x0 (Int.toNat v5) (ByteArray.empty, 0, 0, 0, ())))) (Int.toNat v5) (ByteArray.empty, 0, 0, 0, ()))))) (Int.toNat v5) (ByteArray.empty, 0, 0, 0, ()))), x1 + 1 + 1, Prod.snd (Prod.snd (Prod.snd (List.getD (List.set (List.set x0 (Int.toNat v5) (g46_0 x1, Prod.snd (List.getD x0 (Int.toNat v5) (ByteArray.empty, 0, 0, 0, ())))) (Int.toNat v5) (Prod.fst (List.getD (List.set x0 (Int.toNat v5) (g46_0 x1, Prod.snd (List.getD x0 (Int.toNat v5) (ByteArray.empty, 0, 0, 0, ())))) (Int.toNat v5) (ByteArray.empty, 0, 0, 0, ())), x1 + 1, Prod.snd (Prod.snd (List.getD (List.set x0 (Int.toNat v5) (g46_0 x1, Prod.snd (List.getD x0 (Int.toNat v5) (ByteArray.empty, 0, 0, 0, ())))) (Int.toNat v5) (ByteArray.empty, 0, 0, 0, ()))))) (Int.toNat v5) (ByteArray.empty, 0, 0, 0, ())))))) (Int.toNat v5) (ByteArray.empty, 0, 0, 0, ()))))))), L26_2 (v5 + 1) (x1 + 1 + 1 + 1 + 1) (List.set (List.set (List.set (List.set x0 (Int.toNat v5) (g46_0 x1, Prod.snd (List.getD x0 (Int.toNat v5) (ByteArray.empty, 0, 0, 0, ())))) (Int.toNat v5) (Prod.fst (List.getD (List.set x0 (Int.toNat v5) (g46_0 x1, Prod.snd (List.getD x0 (Int.toNat v5) (ByteArray.empty, 0, 0, 0, ())))) (Int.toNat v5) (ByteArray.empty, 0, 0, 0, ())), x1 + 1, Prod.snd (Prod.snd (List.getD (List.set x0 (Int.toNat v5) (g46_0 x1, Prod.snd (List.getD x0 (Int.toNat v5) (ByteArray.empty, 0, 0, 0, ())))) (Int.toNat v5) (ByteArray.empty, 0, 0, 0, ()))))) (Int.toNat v5) (Prod.fst (List.getD (List.set (List.set x0 (Int.toNat v5) (g46_0 x1, Prod.snd (List.getD x0 (Int.toNat v5) (ByteArray.empty, 0, 0, 0, ())))) (Int.toNat v5) (Prod.fst (List.getD (List.set x0 (Int.toNat v5) (g46_0 x1, Prod.snd (List.getD x0 (Int.toNat v5) (ByteArray.empty, 0, 0, 0, ())))) (Int.toNat v5) (ByteArray.empty, 0, 0, 0, ())), x1 + 1, Prod.snd (Prod.snd (List.getD (List.set x0 (Int.toNat v5) (g46_0 x1, Prod.snd (List.getD x0 (Int.toNat v5) (ByteArray.empty, 0, 0, 0, ())))) (Int.toNat v5) (ByteArray.empty, 0, 0, 0, ()))))) (Int.toNat v5) (ByteArray.empty, 0, 0, 0, ())), Prod.fst (Prod.snd (List.getD (List.set (List.set x0 (Int.toNat v5) (g46_0 x1, Prod.snd (List.getD x0 (Int.toNat v5) (ByteArray.empty, 0, 0, 0, ())))) (Int.toNat v5) (Prod.fst (List.getD (List.set x0 (Int.toNat v5) (g46_0 x1, Prod.snd (List.getD x0 (Int.toNat v5) (ByteArray.empty, 0, 0, 0, ())))) (Int.toNat v5) (ByteArray.empty, 0, 0, 0, ())), x1 + 1, Prod.snd (Prod.snd (List.getD (List.set x0 (Int.toNat v5) (g46_0 x1, Prod.snd (List.getD x0 (Int.toNat v5) (ByteArray.empty, 0, 0, 0, ())))) (Int.toNat v5) (ByteArray.empty, 0, 0, 0, ()))))) (Int.toNat v5) (ByteArray.empty, 0, 0, 0, ()))), x1 + 1 + 1, Prod.snd (Prod.snd (Prod.snd (List.getD (List.set (List.set x0 (Int.toNat v5) (g46_0 x1, Prod.snd (List.getD x0 (Int.toNat v5) (ByteArray.empty, 0, 0, 0, ())))) (Int.toNat v5) (Prod.fst (List.getD (List.set x0 (Int.toNat v5) (g46_0 x1, Prod.snd (List.getD x0 (Int.toNat v5) (ByteArray.empty, 0, 0, 0, ())))) (Int.toNat v5) (ByteArray.empty, 0, 0, 0, ())), x1 + 1, Prod.snd (Prod.snd (List.getD (List.set x0 (Int.toNat v5) (g46_0 x1, Prod.snd (List.getD x0 (Int.toNat v5) (ByteArray.empty, 0, 0, 0, ())))) (Int.toNat v5) (ByteArray.empty, 0, 0, 0, ()))))) (Int.toNat v5) (ByteArray.empty, 0, 0, 0, ())))))) (Int.toNat v5) (Prod.fst (List.getD (List.set (List.set (List.set x0 (Int.toNat v5) (g46_0 x1, Prod.snd (List.getD x0 (Int.toNat v5) (ByteArray.empty, 0, 0, 0, ())))) (Int.toNat v5) (Prod.fst (List.getD (List.set x0 (Int.toNat v5) (g46_0 x1, Prod.snd (List.getD x0 (Int.toNat v5) (ByteArray.empty, 0, 0, 0, ())))) (Int.toNat v5) (ByteArray.empty, 0, 0, 0, ())), x1 + 1, Prod.snd (Prod.snd (List.getD (List.set x0 (Int.toNat v5) (g46_0 x1, Prod.snd (List.getD x0 (Int.toNat v5) (ByteArray.empty, 0, 0, 0, ())))) (Int.toNat v5) (ByteArray.empty, 0, 0, 0, ()))))) (Int.toNat v5) (Prod.fst (List.getD (List.set (List.set x0 (Int.toNat v5) (g46_0 x1, Prod.snd (List.getD x0 (Int.toNat v5) (ByteArray.empty, 0, 0, 0, ())))) (Int.toNat v5) (Prod.fst (List.getD (List.set x0 (Int.toNat v5) (g46_0 x1, Prod.snd (List.getD x0 (Int.toNat v5) (ByteArray.empty, 0, 0, 0, ())))) (Int.toNat v5) (ByteArray.empty, 0, 0, 0, ())), x1 + 1, Prod.snd (Prod.snd (List.getD (List.set x0 (Int.toNat v5) (g46_0 x1, Prod.snd (List.getD x0 (Int.toNat v5) (ByteArray.empty, 0, 0, 0, ())))) (Int.toNat v5) (ByteArray.empty, 0, 0, 0, ()))))) (Int.toNat v5) (ByteArray.empty, 0, 0, 0, ())), Prod.fst (Prod.snd (List.getD (List.set (List.set x0 (Int.toNat v5) (g46_0 x1, Prod.snd (List.getD x0 (Int.toNat v5) (ByteArray.empty, 0, 0, 0, ())))) (Int.toNat v5) (Prod.fst (List.getD (List.set x0 (Int.toNat v5) (g46_0 x1, Prod.snd (List.getD x0 (Int.toNat v5) (ByteArray.empty, 0, 0, 0, ())))) (Int.toNat v5) (ByteArray.empty, 0, 0, 0, ())), x1 + 1, Prod.snd (Prod.snd (List.getD (List.set x0 (Int.toNat v5) (g46_0 x1, Prod.snd (List.getD x0 (Int.toNat v5) (ByteArray.empty, 0, 0, 0, ())))) (Int.toNat v5) (ByteArray.empty, 0, 0, 0, ()))))) (Int.toNat v5) (ByteArray.empty, 0, 0, 0, ()))), x1 + 1 + 1, Prod.snd (Prod.snd (Prod.snd (List.getD (List.set (List.set x0 (Int.toNat v5) (g46_0 x1, Prod.snd (List.getD x0 (Int.toNat v5) (ByteArray.empty, 0, 0, 0, ())))) (Int.toNat v5) (Prod.fst (List.getD (List.set x0 (Int.toNat v5) (g46_0 x1, Prod.snd (List.getD x0 (Int.toNat v5) (ByteArray.empty, 0, 0, 0, ())))) (Int.toNat v5) (ByteArray.empty, 0, 0, 0, ())), x1 + 1, Prod.snd (Prod.snd (List.getD (List.set x0 (Int.toNat v5) (g46_0 x1, Prod.snd (List.getD x0 (Int.toNat v5) (ByteArray.empty, 0, 0, 0, ())))) (Int.toNat v5) (ByteArray.empty, 0, 0, 0, ()))))) (Int.toNat v5) (ByteArray.empty, 0, 0, 0, ())))))) (Int.toNat v5) (ByteArray.empty, 0, 0, 0, ())), Prod.fst (Prod.snd (List.getD (List.set (List.set (List.set x0 (Int.toNat v5) (g46_0 x1, Prod.snd (List.getD x0 (Int.toNat v5) (ByteArray.empty, 0, 0, 0, ())))) (Int.toNat v5) (Prod.fst (List.getD (List.set x0 (Int.toNat v5) (g46_0 x1, Prod.snd (List.getD x0 (Int.toNat v5) (ByteArray.empty, 0, 0, 0, ())))) (Int.toNat v5) (ByteArray.empty, 0, 0, 0, ())), x1 + 1, Prod.snd (Prod.snd (List.getD (List.set x0 (Int.toNat v5) (g46_0 x1, Prod.snd (List.getD x0 (Int.toNat v5) (ByteArray.empty, 0, 0, 0, ())))) (Int.toNat v5) (ByteArray.empty, 0, 0, 0, ()))))) (Int.toNat v5) (Prod.fst (List.getD (List.set (List.set x0 (Int.toNat v5) (g46_0 x1, Prod.snd (List.getD x0 (Int.toNat v5) (ByteArray.empty, 0, 0, 0, ())))) (Int.toNat v5) (Prod.fst (List.getD (List.set x0 (Int.toNat v5) (g46_0 x1, Prod.snd (List.getD x0 (Int.toNat v5) (ByteArray.empty, 0, 0, 0, ())))) (Int.toNat v5) (ByteArray.empty, 0, 0, 0, ())), x1 + 1, Prod.snd (Prod.snd (List.getD (List.set x0 (Int.toNat v5) (g46_0 x1, Prod.snd (List.getD x0 (Int.toNat v5) (ByteArray.empty, 0, 0, 0, ())))) (Int.toNat v5) (ByteArray.empty, 0, 0, 0, ()))))) (Int.toNat v5) (ByteArray.empty, 0, 0, 0, ())), Prod.fst (Prod.snd (List.getD (List.set (List.set x0 (Int.toNat v5) (g46_0 x1, Prod.snd (List.getD x0 (Int.toNat v5) (ByteArray.empty, 0, 0, 0, ())))) (Int.toNat v5) (Prod.fst (List.getD (List.set x0 (Int.toNat v5) (g46_0 x1, Prod.snd (List.getD x0 (Int.toNat v5) (ByteArray.empty, 0, 0, 0, ())))) (Int.toNat v5) (ByteArray.empty, 0, 0, 0, ())), x1 + 1, Prod.snd (Prod.snd (List.getD (List.set x0 (Int.toNat v5) (g46_0 x1, Prod.snd (List.getD x0 (Int.toNat v5) (ByteArray.empty, 0, 0, 0, ())))) (Int.toNat v5) (ByteArray.empty, 0, 0, 0, ()))))) (Int.toNat v5) (ByteArray.empty, 0, 0, 0, ()))), x1 + 1 + 1, Prod.snd (Prod.snd (Prod.snd (List.getD (List.set (List.set x0 (Int.toNat v5) (g46_0 x1, Prod.snd (List.getD x0 (Int.toNat v5) (ByteArray.empty, 0, 0, 0, ())))) (Int.toNat v5) (Prod.fst (List.getD (List.set x0 (Int.toNat v5) (g46_0 x1, Prod.snd (List.getD x0 (Int.toNat v5) (ByteArray.empty, 0, 0, 0, ())))) (Int.toNat v5) (ByteArray.empty, 0, 0, 0, ())), x1 + 1, Prod.snd (Prod.snd (List.getD (List.set x0 (Int.toNat v5) (g46_0 x1, Prod.snd (List.getD x0 (Int.toNat v5) (ByteArray.empty, 0, 0, 0, ())))) (Int.toNat v5) (ByteArray.empty, 0, 0, 0, ()))))) (Int.toNat v5) (ByteArray.empty, 0, 0, 0, ())))))) (Int.toNat v5) (ByteArray.empty, 0, 0, 0, ()))), Prod.fst (Prod.snd (Prod.snd (List.getD (List.set (List.set (List.set x0 (Int.toNat v5) (g46_0 x1, Prod.snd (List.getD x0 (Int.toNat v5) (ByteArray.empty, 0, 0, 0, ())))) (Int.toNat v5) (Prod.fst (List.getD (List.set x0 (Int.toNat v5) (g46_0 x1, Prod.snd (List.getD x0 (Int.toNat v5) (ByteArray.empty, 0, 0, 0, ())))) (Int.toNat v5) (ByteArray.empty, 0, 0, 0, ())), x1 + 1, Prod.snd (Prod.snd (List.getD (List.set x0 (Int.toNat v5) (g46_0 x1, Prod.snd (List.getD x0 (Int.toNat v5) (ByteArray.empty, 0, 0, 0, ())))) (Int.toNat v5) (ByteArray.empty, 0, 0, 0, ()))))) (Int.toNat v5) (Prod.fst (List.getD (List.set (List.set x0 (Int.toNat v5) (g46_0 x1, Prod.snd (List.getD x0 (Int.toNat v5) (ByteArray.empty, 0, 0, 0, ())))) (Int.toNat v5) (Prod.fst (List.getD (List.set x0 (Int.toNat v5) (g46_0 x1, Prod.snd (List.getD x0 (Int.toNat v5) (ByteArray.empty, 0, 0, 0, ())))) (Int.toNat v5) (ByteArray.empty, 0, 0, 0, ())), x1 + 1, Prod.snd (Prod.snd (List.getD (List.set x0 (Int.toNat v5) (g46_0 x1, Prod.snd (List.getD x0 (Int.toNat v5) (ByteArray.empty, 0, 0, 0, ())))) (Int.toNat v5) (ByteArray.empty, 0, 0, 0, ()))))) (Int.toNat v5) (ByteArray.empty, 0, 0, 0, ())), Prod.fst (Prod.snd (List.getD (List.set (List.set x0 (Int.toNat v5) (g46_0 x1, Prod.snd (List.getD x0 (Int.toNat v5) (ByteArray.empty, 0, 0, 0, ())))) (Int.toNat v5) (Prod.fst (List.getD (List.set x0 (Int.toNat v5) (g46_0 x1, Prod.snd (List.getD x0 (Int.toNat v5) (ByteArray.empty, 0, 0, 0, ())))) (Int.toNat v5) (ByteArray.empty, 0, 0, 0, ())), x1 + 1, Prod.snd (Prod.snd (List.getD (List.set x0 (Int.toNat v5) (g46_0 x1, Prod.snd (List.getD x0 (Int.toNat v5) (ByteArray.empty, 0, 0, 0, ())))) (Int.toNat v5) (ByteArray.empty, 0, 0, 0, ()))))) (Int.toNat v5) (ByteArray.empty, 0, 0, 0, ()))), x1 + 1 + 1, Prod.snd (Prod.snd (Prod.snd (List.getD (List.set (List.set x0 (Int.toNat v5) (g46_0 x1, Prod.snd (List.getD x0 (Int.toNat v5) (ByteArray.empty, 0, 0, 0, ())))) (Int.toNat v5) (Prod.fst (List.getD (List.set x0 (Int.toNat v5) (g46_0 x1, Prod.snd (List.getD x0 (Int.toNat v5) (ByteArray.empty, 0, 0, 0, ())))) (Int.toNat v5) (ByteArray.empty, 0, 0, 0, ())), x1 + 1, Prod.snd (Prod.snd (List.getD (List.set x0 (Int.toNat v5) (g46_0 x1, Prod.snd (List.getD x0 (Int.toNat v5) (ByteArray.empty, 0, 0, 0, ())))) (Int.toNat v5) (ByteArray.empty, 0, 0, 0, ()))))) (Int.toNat v5) (ByteArray.empty, 0, 0, 0, ())))))) (Int.toNat v5) (ByteArray.empty, 0, 0, 0, ())))), x1 + 1 + 1 + 1, Prod.snd (Prod.snd (Prod.snd (Prod.snd (List.getD (List.set (List.set (List.set x0 (Int.toNat v5) (g46_0 x1, Prod.snd (List.getD x0 (Int.toNat v5) (ByteArray.empty, 0, 0, 0, ())))) (Int.toNat v5) (Prod.fst (List.getD (List.set x0 (Int.toNat v5) (g46_0 x1, Prod.snd (List.getD x0 (Int.toNat v5) (ByteArray.empty, 0, 0, 0, ())))) (Int.toNat v5) (ByteArray.empty, 0, 0, 0, ())), x1 + 1, Prod.snd (Prod.snd (List.getD (List.set x0 (Int.toNat v5) (g46_0 x1, Prod.snd (List.getD x0 (Int.toNat v5) (ByteArray.empty, 0, 0, 0, ())))) (Int.toNat v5) (ByteArray.empty, 0, 0, 0, ()))))) (Int.toNat v5) (Prod.fst (List.getD (List.set (List.set x0 (Int.toNat v5) (g46_0 x1, Prod.snd (List.getD x0 (Int.toNat v5) (ByteArray.empty, 0, 0, 0, ())))) (Int.toNat v5) (Prod.fst (List.getD (List.set x0 (Int.toNat v5) (g46_0 x1, Prod.snd (List.getD x0 (Int.toNat v5) (ByteArray.empty, 0, 0, 0, ())))) (Int.toNat v5) (ByteArray.empty, 0, 0, 0, ())), x1 + 1, Prod.snd (Prod.snd (List.getD (List.set x0 (Int.toNat v5) (g46_0 x1, Prod.snd (List.getD x0 (Int.toNat v5) (ByteArray.empty, 0, 0, 0, ())))) (Int.toNat v5) (ByteArray.empty, 0, 0, 0, ()))))) (Int.toNat v5) (ByteArray.empty, 0, 0, 0, ())), Prod.fst (Prod.snd (List.getD (List.set (List.set x0 (Int.toNat v5) (g46_0 x1, Prod.snd (List.getD x0 (Int.toNat v5) (ByteArray.empty, 0, 0, 0, ())))) (Int.toNat v5) (Prod.fst (List.getD (List.set x0 (Int.toNat v5) (g46_0 x1, Prod.snd (List.getD x0 (Int.toNat v5) (ByteArray.empty, 0, 0, 0, ())))) (Int.toNat v5) (ByteArray.empty, 0, 0, 0, ())), x1 + 1, Prod.snd (Prod.snd (List.getD (List.set x0 (Int.toNat v5) (g46_0 x1, Prod.snd (List.getD x0 (Int.toNat v5) (ByteArray.empty, 0, 0, 0, ())))) (Int.toNat v5) (ByteArray.empty, 0, 0, 0, ()))))) (Int.toNat v5) (ByteArray.empty, 0, 0, 0, ()))), x1 + 1 + 1, Prod.snd (Prod.snd (Prod.snd (List.getD (List.set (List.set x0 (Int.toNat v5) (g46_0 x1, Prod.snd (List.getD x0 (Int.toNat v5) (ByteArray.empty, 0, 0, 0, ())))) (Int.toNat v5) (Prod.fst (List.getD (List.set x0 (Int.toNat v5) (g46_0 x1, Prod.snd (List.getD x0 (Int.toNat v5) (ByteArray.empty, 0, 0, 0, ())))) (Int.toNat v5) (ByteArray.empty, 0, 0, 0, ())), x1 + 1, Prod.snd (Prod.snd (List.getD (List.set x0 (Int.toNat v5) (g46_0 x1, Prod.snd (List.getD x0 (Int.toNat v5) (ByteArray.empty, 0, 0, 0, ())))) (Int.toNat v5) (ByteArray.empty, 0, 0, 0, ()))))) (Int.toNat v5) (ByteArray.empty, 0, 0, 0, ())))))) (Int.toNat v5) (ByteArray.empty, 0, 0, 0, ()))))))), [Decidable.decide (v5 < (↑(List.length x0) : Int)) = Bool.true, True, 0 ≤ v5, v5 < (↑(List.length x0) : Int), InR IntKind.i64 (x1 + 1), 0 ≤ v5, v5 < (↑(List.length (List.set x0 (Int.toNat v5) (g46_0 x1, Prod.snd (List.getD x0 (Int.toNat v5) (ByteArray.empty, 0, 0, 0, ()))))) : Int), InR IntKind.i64 (x1 + 1 + 1), 0 ≤ v5, v5 < (↑(List.length (List.set (List.set x0 (Int.toNat v5) (g46_0 x1, Prod.snd (List.getD x0 (Int.toNat v5) (ByteArray.empty, 0, 0, 0, ())))) (Int.toNat v5) (Prod.fst (List.getD (List.set x0 (Int.toNat v5) (g46_0 x1, Prod.snd (List.getD x0 (Int.toNat v5) (ByteArray.empty, 0, 0, 0, ())))) (Int.toNat v5) (ByteArray.empty, 0, 0, 0, ())), x1 + 1, Prod.snd (Prod.snd (List.getD (List.set x0 (Int.toNat v5) (g46_0 x1, Prod.snd (List.getD x0 (Int.toNat v5) (ByteArray.empty, 0, 0, 0, ())))) (Int.toNat v5) (ByteArray.empty, 0, 0, 0, ())))))) : Int), InR IntKind.i64 (x1 + 1 + 1 + 1), 0 ≤ v5, v5 < (↑(List.length (List.set (List.set (List.set x0 (Int.toNat v5) (g46_0 x1, Prod.snd (List.getD x0 (Int.toNat v5) (ByteArray.empty, 0, 0, 0, ())))) (Int.toNat v5) (Prod.fst (List.getD (List.set x0 (Int.toNat v5) (g46_0 x1, Prod.snd (List.getD x0 (Int.toNat v5) (ByteArray.empty, 0, 0, 0, ())))) (Int.toNat v5) (ByteArray.empty, 0, 0, 0, ())), x1 + 1, Prod.snd (Prod.snd (List.getD (List.set x0 (Int.toNat v5) (g46_0 x1, Prod.snd (List.getD x0 (Int.toNat v5) (ByteArray.empty, 0, 0, 0, ())))) (Int.toNat v5) (ByteArray.empty, 0, 0, 0, ()))))) (Int.toNat v5) (Prod.fst (List.getD (List.set (List.set x0 (Int.toNat v5) (g46_0 x1, Prod.snd (List.getD x0 (Int.toNat v5) (ByteArray.empty, 0, 0, 0, ())))) (Int.toNat v5) (Prod.fst (List.getD (List.set x0 (Int.toNat v5) (g46_0 x1, Prod.snd (List.getD x0 (Int.toNat v5) (ByteArray.empty, 0, 0, 0, ())))) (Int.toNat v5) (ByteArray.empty, 0, 0, 0, ())), x1 + 1, Prod.snd (Prod.snd (List.getD (List.set x0 (Int.toNat v5) (g46_0 x1, Prod.snd (List.getD x0 (Int.toNat v5) (ByteArray.empty, 0, 0, 0, ())))) (Int.toNat v5) (ByteArray.empty, 0, 0, 0, ()))))) (Int.toNat v5) (ByteArray.empty, 0, 0, 0, ())), Prod.fst (Prod.snd (List.getD (List.set (List.set x0 (Int.toNat v5) (g46_0 x1, Prod.snd (List.getD x0 (Int.toNat v5) (ByteArray.empty, 0, 0, 0, ())))) (Int.toNat v5) (Prod.fst (List.getD (List.set x0 (Int.toNat v5) (g46_0 x1, Prod.snd (List.getD x0 (Int.toNat v5) (ByteArray.empty, 0, 0, 0, ())))) (Int.toNat v5) (ByteArray.empty, 0, 0, 0, ())), x1 + 1, Prod.snd (Prod.snd (List.getD (List.set x0 (Int.toNat v5) (g46_0 x1, Prod.snd (List.getD x0 (Int.toNat v5) (ByteArray.empty, 0, 0, 0, ())))) (Int.toNat v5) (ByteArray.empty, 0, 0, 0, ()))))) (Int.toNat v5) (ByteArray.empty, 0, 0, 0, ()))), x1 + 1 + 1, Prod.snd (Prod.snd (Prod.snd (List.getD (List.set (List.set x0 (Int.toNat v5) (g46_0 x1, Prod.snd (List.getD x0 (Int.toNat v5) (ByteArray.empty, 0, 0, 0, ())))) (Int.toNat v5) (Prod.fst (List.getD (List.set x0 (Int.toNat v5) (g46_0 x1, Prod.snd (List.getD x0 (Int.toNat v5) (ByteArray.empty, 0, 0, 0, ())))) (Int.toNat v5) (ByteArray.empty, 0, 0, 0, ())), x1 + 1, Prod.snd (Prod.snd (List.getD (List.set x0 (Int.toNat v5) (g46_0 x1, Prod.snd (List.getD x0 (Int.toNat v5) (ByteArray.empty, 0, 0, 0, ())))) (Int.toNat v5) (ByteArray.empty, 0, 0, 0, ()))))) (Int.toNat v5) (ByteArray.empty, 0, 0, 0, ()))))))) : Int), InR IntKind.i64 (x1 + 1 + 1 + 1 + 1), InR IntKind.i64 (v5 + 1)]) := by kernel_rfl
theorem p26_2 (v5 : Int) (x1 : Int) (x0 : List (ByteArray × Int × Int × Int × Unit)) : runF tab ext26 false 42 [] 2000 [0] oks26 kds26 tys26 Try.f26.results [false] (cutAt b26 2) (E26_2 v5 x1 x0) (L26_2 v5 x1 x0) = some ([Dyn.mk (Ty.int IntKind.i64) x1], [Option.some (Lst.mk (Ty.cons Ty.str (Ty.cons (Ty.int IntKind.i64) (Ty.cons (Ty.int IntKind.i64) (Ty.cons (Ty.int IntKind.i64) Ty.unit)))) x0)], [Decidable.decide (v5 < (↑(List.length x0) : Int)) = Bool.false]) := by kernel_rfl
theorem snd26 : ∀ n, (∀ (x0 : List (ByteArray × Int × Int × Int × Unit)) (x1 : Int) ds us, R26 n x0 x1 ds us → ∀ K q, AtV Try.prog 26 (PostR kds26 oks26 ds us [0] q K) 42 K q [0] [.code b26] (entE 0 0 sig26 (x0, x1, ())) (entL sig26 (x0, x1, ()))) ∧ (∀ (v5 : Int) (x1 : Int) (x0 : List (ByteArray × Int × Int × Int × Unit)) ds us, R26_2 n v5 x1 x0 ds us → ∀ K q, AtV Try.prog 26 (PostR kds26 oks26 ds us [0] q K) 42 K q [0] (cutAt b26 2) (E26_2 v5 x1 x0) (L26_2 v5 x1 x0)) := by
  intro n
  induction n with
  | zero => exact ⟨fun _ _ _ _ h => by simp only [R26] at h, fun _ _ _ _ _ h => by simp only [R26_2] at h⟩
  | succ n ih =>
  obtain ⟨ih, ih2⟩ := ih
  refine ⟨?_, ?_⟩
  · intro x0 x1 ds us h K q
    rw [R26] at h
    exact AtV.runN tabOk ext26Ok mixed (p26_0 x0 x1) trivial (ih2 _ _ _ _ _ h K q)

  · intro v5 x1 x0 ds us h K q
    rw [R26_2] at h
    by_cases b0 : (Decidable.decide (v5 < (↑(List.length x0) : Int))) = true
    · rw [if_pos b0] at h
      obtain ⟨s0, s1, h⟩ := h
      obtain ⟨s2, h⟩ := h
      obtain ⟨s3, s4, h⟩ := h
      obtain ⟨s5, h⟩ := h
      obtain ⟨s6, s7, h⟩ := h
      obtain ⟨s8, h⟩ := h
      obtain ⟨s9, s10, h⟩ := h
      obtain ⟨s11, h⟩ := h
      obtain ⟨s12, h⟩ := h
      exact AtV.runN tabOk ext26Ok mixed (p26_1 v5 x1 x0) ⟨b0, trivial, s0, s1, s2, s3, s4, s5, s6, s7, s8, s9, s10, s11, s12, trivial⟩ (ih2 _ _ _ _ _ h K q)
    · rw [if_neg b0] at h
      replace b0 := Bool.eq_false_iff.2 b0
      obtain ⟨h, h'⟩ := h; subst h; subst h'
      exact AtV.fin Try.func26 tabOk ext26Ok mixed (p26_2 v5 x1 x0) ⟨b0, trivial⟩



def M26 (x1 : Int) (n : Nat) : List (ByteArray × Int × Int × Int × Unit) := (List.range n).map fun (j : Nat) => (g46_0 (x1 + 4 * (j : Int)), (x1 + 4 * (j : Int) + 1), (x1 + 4 * (j : Int) + 1 + 1), (x1 + 4 * (j : Int) + 1 + 1 + 1), ())

theorem M26_len (x1 : Int) (n : Nat) : (M26 x1 n).length = n := by simp [M26]

theorem M26_succ (x1 : Int) (n : Nat) : M26 x1 (n + 1) = M26 x1 n ++ [(g46_0 (x1 + 4 * (n : Int)), (x1 + 4 * (n : Int) + 1), (x1 + 4 * (n : Int) + 1 + 1), (x1 + 4 * (n : Int) + 1 + 1 + 1), ())] := by
  simp [M26, List.range_succ]

theorem run26 (x0 : List (ByteArray × Int × Int × Int × Unit)) (x1 : Int) (hm : x0.length ≤ maxLen) (h0 : 0 ≤ x1) (h1 : x1 + 4 * x0.length ≤ 9223372036854775807) : ∀ (k i : Nat), i + k = x0.length →
    R26_2 (k + 1) (i : Int) (x1 + 4 * (i : Int)) (M26 x1 i ++ x0.drop i) [⟨.int .i64, x1 + 4 * (x0.length : Int)⟩] [some ⟨(.cons .str (.cons (.int .i64) (.cons (.int .i64) (.cons (.int .i64) .unit)))), M26 x1 x0.length⟩] := by
  intro k
  induction k with
  | zero =>
    intro i hi
    have hl : (M26 x1 i ++ x0.drop i).length = x0.length := by simp [M26_len]; omega
    rw [R26_2, if_neg (by rw [hl]; simp; omega), drop_end x0 i (by omega), List.append_nil]
    have : i = x0.length := by omega
    subst this
    exact ⟨rfl, rfl⟩
  | succ k ih =>
    intro i hi
    have hl : (M26 x1 i ++ x0.drop i).length = x0.length := by simp [M26_len]; omega
    have hA := M26_len x1 i
    rw [R26_2, if_pos (by rw [hl]; simp; omega)]
    rw [drop_get x0 i (ByteArray.empty, (0 : Int), (0 : Int), (0 : Int), ()) (by omega)] at hl ⊢
    simp only [Int.toNat_natCast, set_mid _ _ _ _ i hA, get_mid _ _ _ _ i hA]
    have hl' : ∀ y : (ByteArray × Int × Int × Int × Unit), ((M26 x1 i ++ y :: x0.drop (i + 1)).length : Int) = x0.length := fun y => by rw [← hl]; simp
    simp only [hl']
    refine ⟨by omega, by omega, by rw [i64_iff]; omega, by omega, by omega, by rw [i64_iff]; omega, by omega, by omega, by rw [i64_iff]; omega, by omega, by omega, by rw [i64_iff]; omega, inR_up hm (by omega), ?_⟩
    have hx : x1 + 4 * (i : Int) + 1 + 1 + 1 + 1 = x1 + 4 * ((i + 1 : Nat) : Int) := by omega
    have := ih (i + 1) (by omega)
    rw [M26_succ, List.append_assoc] at this
    rw [hx]
    simpa using this

def P26 (x0 : List (ByteArray × Int × Int × Int × Unit)) (x1 : Int) : Prop := 0 ≤ x1 ∧ x1 + 4 * x0.length ≤ 9223372036854775807
def g26_0 (x0 : List (ByteArray × Int × Int × Int × Unit)) (x1 : Int) : Int := x1 + 4 * (x0.length : Int)
def u26_0 (x0 : List (ByteArray × Int × Int × Int × Unit)) (x1 : Int) : List (ByteArray × Int × Int × Int × Unit) := M26 x1 x0.length

theorem top26 (x0 : List (ByteArray × Int × Int × Int × Unit)) (x1 : Int) (hm : x0.length ≤ maxLen) (h : P26 x0 x1) : R26 (x0.length + 1 + 1) x0 x1 [⟨.int .i64, g26_0 x0 x1⟩] [some ⟨(.cons .str (.cons (.int .i64) (.cons (.int .i64) (.cons (.int .i64) .unit)))), u26_0 x0 x1⟩] := by
  rw [R26]
  have := run26 x0 x1 hm h.1 h.2 x0.length 0 (by omega)
  simpa [M26, g26_0, u26_0] using this

def S26 : Am.Spec := { sig := sig26, pre := fun ⟨x0, x1, _⟩ => P26 x0 x1, upd := fun ⟨x0, x1, _⟩ => [some ⟨(.cons .str (.cons (.int .i64) (.cons (.int .i64) (.cons (.int .i64) .unit)))), u26_0 x0 x1⟩], res := fun ⟨x0, x1, _⟩ => [⟨.int .i64, g26_0 x0 x1⟩] }
theorem con26 : Contract Try.prog 26 S26 := contract_of Try.func26 hb26 (Nat.le_of_ble_eq_true (by kernel_rfl)) (fun ⟨x0, x1, _⟩ h hwf K q =>
  (snd26 _).1 x0 x1 _ _ (top26 x0 x1 hwf.1.1 h) K q)

end Go.Proofs.Ytleifkpekoinlaa

/- Function 34 (laws.heldFareS): its runs between cut points. Written by a program of this repo (gen). -/
set_option linter.unusedVariables false
set_option linter.unusedSimpArgs false
set_option maxRecDepth 100000
namespace Go.Proofs.Ytleifkpekoinlaa
open Go Go.Am Go.Proofs
def ext34 : Ext := [(46, S46)]
theorem call34_46 : Callable Try.prog 46 := ⟨Try.f46, Try.func46, by kernel_rfl, by kernel_rfl⟩
theorem ext34Ok : ExtOk Try.prog ext34 := ⟨⟨call34_46, con46⟩, trivial⟩
/-! Function 34. -/
noncomputable def b34 : Code := bodyOf Try.f34
theorem hb34 : Try.f34.body = some b34 := by kernel_rfl
def sig34 : List AT := [AT.v (Ty.sl (Ty.cons Ty.str (Ty.cons (Ty.int IntKind.i64) (Ty.cons (Ty.int IntKind.i64) (Ty.cons (Ty.int IntKind.i64) Ty.unit))))), AT.v (Ty.int IntKind.i64)]
def tys34 : List Ty := [Ty.int IntKind.i64]
def kds34 : List RK := []
def oks34 : List AT := owns sig34
def E34_2 (v5 : Int) (x0 : List (ByteArray × Int × Int × Int × Unit)) (x1 : Int) : Env := [(0, PV.a (Atom.sl (Ty.cons Ty.str (Ty.cons (Ty.int IntKind.i64) (Ty.cons (Ty.int IntKind.i64) (Ty.cons (Ty.int IntKind.i64) Ty.unit)))) x0)), (1, PV.a (Atom.val (Value.int IntKind.i64 x1))), (5, PV.a (Atom.val (Value.int IntKind.i64 v5)))]
def L34_2 (v5 : Int) (x0 : List (ByteArray × Int × Int × Int × Unit)) (x1 : Int) : Heap := []
mutual
def R34 : Nat → List (ByteArray × Int × Int × Int × Unit) → Int → List Dyn → Prop
  | 0, _, _, _ => False
  | n + 1, x0, x1, ds => (R34_2 n (0) (x0) (x1) ds)
def R34_2 : Nat → Int → List (ByteArray × Int × Int × Int × Unit) → Int → List Dyn → Prop
  | 0, _, _, _, _ => False
  | n + 1, v5, x0, x1, ds => (if (Decidable.decide (v5 < (↑(List.length x0) : Int))) = true then ((0 ≤ v5) ∧ (v5 < (↑(List.length x0) : Int)) ∧ (if (!ByteArray.toList (Prod.fst (List.getD x0 (Int.toNat v5) (ByteArray.empty, 0, 0, 0, ()))) == ByteArray.toList (g46_0 x1)) = true then (ds = [Dyn.mk (Ty.int IntKind.i64) (-1)]) else ((InR IntKind.i64 (x1 + 1)) ∧ ((0 ≤ v5) ∧ (v5 < (↑(List.length x0) : Int)) ∧ (if (Prod.fst (Prod.snd (List.getD x0 (Int.toNat v5) (ByteArray.empty, 0, 0, 0, ()))) != x1 + 1) = true then (ds = [Dyn.mk (Ty.int IntKind.i64) (-1)]) else ((InR IntKind.i64 (x1 + 1 + 1)) ∧ ((0 ≤ v5) ∧ (v5 < (↑(List.length x0) : Int)) ∧ (if (Prod.fst (Prod.snd (Prod.snd (List.getD x0 (Int.toNat v5) (ByteArray.empty, 0, 0, 0, ())))) != x1 + 1 + 1) = true then (ds = [Dyn.mk (Ty.int IntKind.i64) (-1)]) else ((InR IntKind.i64 (x1 + 1 + 1 + 1)) ∧ ((0 ≤ v5) ∧ (v5 < (↑(List.length x0) : Int)) ∧ (if (Prod.fst (Prod.snd (Prod.snd (Prod.snd (List.getD x0 (Int.toNat v5) (ByteArray.empty, 0, 0, 0, ()))))) != x1 + 1 + 1 + 1) = true then (ds = [Dyn.mk (Ty.int IntKind.i64) (-1)]) else ((InR IntKind.i64 (x1 + 1 + 1 + 1 + 1)) ∧ ((InR IntKind.i64 (v5 + 1)) ∧ (R34_2 n (v5 + 1) (x0) (x1 + 1 + 1 + 1 + 1) ds)))))))))))))) else (ds = [Dyn.mk (Ty.int IntKind.i64) x1]))
end
theorem p34_0 (x0 : List (ByteArray × Int × Int × Int × Unit)) (x1 : Int) : Am.runN tab ext34 false 50 [] 2000 [] [] [0, 1, 5] [] [] [.code b34] (entE 0 0 sig34 (x0, x1, ())) (entL sig34 (x0, x1, ())) = some (cutAt b34 2, E34_2 (0) (x0) (x1), L34_2 (0) (x0) (x1), []) := by kernel_rfl
theorem p34_1 (v5 : Int) (x0 : List (ByteArray × Int × Int × Int × Unit)) (x1 : Int) : runF tab ext34 false 50 [] 2000 [] oks34 kds34 tys34 Try.f34.results [true, true] (cutAt b34 2) (E34_2 v5 x0 x1) (L34_2 v5 x0 x1) = some ([Dyn.mk (Ty.int IntKind.i64) (-1)], [], [Decidable.decide (v5 < (↑(List.length x0) : Int)) = Bool.true, 0 ≤ v5, v5 < (↑(List.length x0) : Int), True, (!ByteArray.toList (Prod.fst (List.getD x0 (Int.toNat v5) (ByteArray.empty, 0, 0, 0, ()))) == ByteArray.toList (g46_0 x1)) = Bool.true]) := by kernel_rfl
theorem p34_2 (v5 : Int) (x0 : List (ByteArray × Int × Int × Int × Unit)) (x1 : Int) : runF tab ext34 false 50 [] 2000 [] oks34 kds34 tys34 Try.f34.results [true, false, true] (cutAt b34 2) (E34_2 v5 x0 x1) (L34_2 v5 x0 x1) = some ([Dyn.mk (Ty.int IntKind.i64) (-1)], [], [Decidable.decide (v5 < (↑(List.length x0) : Int)) = Bool.true, 0 ≤ v5, v5 < (↑(List.length x0) : Int), True, (!ByteArray.toList (Prod.fst (List.getD x0 (Int.toNat v5) (ByteArray.empty, 0, 0, 0, ()))) == ByteArray.toList (g46_0 x1)) = Bool.false, InR IntKind.i64 (x1 + 1), 0 ≤ v5, v5 < (↑(List.length x0) : Int), (Prod.fst (Prod.snd (List.getD x0 (Int.toNat v5) (ByteArray.empty, 0, 0, 0, ()))) != x1 + 1) = Bool.true]) := by kernel_rfl
theorem p34_3 (v5 : Int) (x0 : List (ByteArray × Int × Int × Int × Unit)) (x1 : Int) : runF tab ext34 false 50 [] 2000 [] oks34 kds34 tys34 Try.f34.results [true, false, false, true] (cutAt b34 2) (E34_2 v5 x0 x1) (L34_2 v5 x0 x1) = some ([Dyn.mk (Ty.int IntKind.i64) (-1)], [], [Decidable.decide (v5 < (↑(List.length x0) : Int)) = Bool.true, 0 ≤ v5, v5 < (↑(List.length x0) : Int), True, (!ByteArray.toList (Prod.fst (List.getD x0 (Int.toNat v5) (ByteArray.empty, 0, 0, 0, ()))) == ByteArray.toList (g46_0 x1)) = Bool.false, InR IntKind.i64 (x1 + 1), 0 ≤ v5, v5 < (↑(List.length x0) : Int), (Prod.fst (Prod.snd (List.getD x0 (Int.toNat v5) (ByteArray.empty, 0, 0, 0, ()))) != x1 + 1) = Bool.false, InR IntKind.i64 (x1 + 1 + 1), 0 ≤ v5, v5 < (↑(List.length x0) : Int), (Prod.fst (Prod.snd (Prod.snd (List.getD x0 (Int.toNat v5) (ByteArray.empty, 0, 0, 0, ())))) != x1 + 1 + 1) = Bool.true]) := by kernel_rfl
theorem p34_4 (v5 : Int) (x0 : List (ByteArray × Int × Int × Int × Unit)) (x1 : Int) : runF tab ext34 false 50 [] 2000 [] oks34 kds34 tys34 Try.f34.results [true, false, false, false, true] (cutAt b34 2) (E34_2 v5 x0 x1) (L34_2 v5 x0 x1) = some ([Dyn.mk (Ty.int IntKind.i64) (-1)], [], [Decidable.decide (v5 < (↑(List.length x0) : Int)) = Bool.true, 0 ≤ v5, v5 < (↑(List.length x0) : Int), True, (!ByteArray.toList (Prod.fst (List.getD x0 (Int.toNat v5) (ByteArray.empty, 0, 0, 0, ()))) == ByteArray.toList (g46_0 x1)) = Bool.false, InR IntKind.i64 (x1 + 1), 0 ≤ v5, v5 < (↑(List.length x0) : Int), (Prod.fst (Prod.snd (List.getD x0 (Int.toNat v5) (ByteArray.empty, 0, 0, 0, ()))) != x1 + 1) = Bool.false, InR IntKind.i64 (x1 + 1 + 1), 0 ≤ v5, v5 < (↑(List.length x0) : Int), (Prod.fst (Prod.snd (Prod.snd (List.getD x0 (Int.toNat v5) (ByteArray.empty, 0, 0, 0, ())))) != x1 + 1 + 1) = Bool.false, InR IntKind.i64 (x1 + 1 + 1 + 1), 0 ≤ v5, v5 < (↑(List.length x0) : Int), (Prod.fst (Prod.snd (Prod.snd (Prod.snd (List.getD x0 (Int.toNat v5) (ByteArray.empty, 0, 0, 0, ()))))) != x1 + 1 + 1 + 1) = Bool.true]) := by kernel_rfl
theorem p34_5 (v5 : Int) (x0 : List (ByteArray × Int × Int × Int × Unit)) (x1 : Int) : Am.runN tab ext34 false 50 [] 2000 [] [] [0, 1, 5] [] [true, false, false, false, false] (cutAt b34 2) (E34_2 v5 x0 x1) (L34_2 v5 x0 x1) = some (cutAt b34 2, E34_2 (v5 + 1) (x0) (x1 + 1 + 1 + 1 + 1), L34_2 (v5 + 1) (x0) (x1 + 1 + 1 + 1 + 1), [Decidable.decide (v5 < (↑(List.length x0) : Int)) = Bool.true, 0 ≤ v5, v5 < (↑(List.length x0) : Int), True, (!ByteArray.toList (Prod.fst (List.getD x0 (Int.toNat v5) (ByteArray.empty, 0, 0, 0, ()))) == ByteArray.toList (g46_0 x1)) = Bool.false, InR IntKind.i64 (x1 + 1), 0 ≤ v5, v5 < (↑(List.length x0) : Int), (Prod.fst (Prod.snd (List.getD x0 (Int.toNat v5) (ByteArray.empty, 0, 0, 0, ()))) != x1 + 1) = Bool.false, InR IntKind.i64 (x1 + 1 + 1), 0 ≤ v5, v5 < (↑(List.length x0) : Int), (Prod.fst (Prod.snd (Prod.snd (List.getD x0 (Int.toNat v5) (ByteArray.empty, 0, 0, 0, ())))) != x1 + 1 + 1) = Bool.false, InR IntKind.i64 (x1 + 1 + 1 + 1), 0 ≤ v5, v5 < (↑(List.length x0) : Int), (Prod.fst (Prod.snd (Prod.snd (Prod.snd (List.getD x0 (Int.toNat v5) (ByteArray.empty, 0, 0, 0, ()))))) != x1 + 1 + 1 + 1) = Bool.false, InR IntKind.i64 (x1 + 1 + 1 + 1 + 1), InR IntKind.i64 (v5 + 1)]) := by kernel_rfl
theorem p34_6 (v5 : Int) (x0 : List (ByteArray × Int × Int × Int × Unit)) (x1 : Int) : runF tab ext34 false 50 [] 2000 [] oks34 kds34 tys34 Try.f34.results [false] (cutAt b34 2) (E34_2 v5 x0 x1) (L34_2 v5 x0 x1) = some ([Dyn.mk (Ty.int IntKind.i64) x1], [], [Decidable.decide (v5 < (↑(List.length x0) : Int)) = Bool.false]) := by kernel_rfl
theorem snd34 : ∀ n, (∀ (x0 : List (ByteArray × Int × Int × Int × Unit)) (x1 : Int) ds, R34 n x0 x1 ds → ∀ K q, AtV Try.prog 34 (PostR kds34 oks34 ds [] [] q K) 50 K q [] [.code b34] (entE 0 0 sig34 (x0, x1, ())) (entL sig34 (x0, x1, ()))) ∧ (∀ (v5 : Int) (x0 : List (ByteArray × Int × Int × Int × Unit)) (x1 : Int) ds, R34_2 n v5 x0 x1 ds → ∀ K q, AtV Try.prog 34 (PostR kds34 oks34 ds [] [] q K) 50 K q [] (cutAt b34 2) (E34_2 v5 x0 x1) (L34_2 v5 x0 x1)) := by
  intro n
  induction n with
  | zero => exact ⟨fun _ _ _ h => by simp only [R34] at h, fun _ _ _ _ h => by simp only [R34_2] at h⟩
  | succ n ih =>
  obtain ⟨ih, ih2⟩ := ih
  refine ⟨?_, ?_⟩
  · intro x0 x1 ds h K q
    rw [R34] at h
    exact AtV.runN tabOk ext34Ok mixed (p34_0 x0 x1) trivial (ih2 _ _ _ _ h K q)

  · intro v5 x0 x1 ds h K q
    rw [R34_2] at h
    by_cases b0 : (Decidable.decide (v5 < (↑(List.length x0) : Int))) = true
    · rw [if_pos b0] at h
      obtain ⟨s0, s1, h⟩ := h
      by_cases b1 : (!ByteArray.toList (Prod.fst (List.getD x0 (Int.toNat v5) (ByteArray.empty, 0, 0, 0, ()))) == ByteArray.toList (g46_0 x1)) = true
      · rw [if_pos b1] at h
        subst h
        exact AtV.fin Try.func34 tabOk ext34Ok mixed (p34_1 v5 x0 x1) ⟨b0, s0, s1, trivial, b1, trivial⟩
      · rw [if_neg b1] at h
        replace b1 := Bool.eq_false_iff.2 b1
        obtain ⟨s2, h⟩ := h
        obtain ⟨s3, s4, h⟩ := h
        by_cases b2 : (Prod.fst (Prod.snd (List.getD x0 (Int.toNat v5) (ByteArray.empty, 0, 0, 0, ()))) != x1 + 1) = true
        · rw [if_pos b2] at h
          subst h
          exact AtV.fin Try.func34 tabOk ext34Ok mixed (p34_2 v5 x0 x1) ⟨b0, s0, s1, trivial, b1, s2, s3, s4, b2, trivial⟩
        · rw [if_neg b2] at h
          replace b2 := Bool.eq_false_iff.2 b2
          obtain ⟨s5, h⟩ := h
          obtain ⟨s6, s7, h⟩ := h
          by_cases b3 : (Prod.fst (Prod.snd (Prod.snd (List.getD x0 (Int.toNat v5) (ByteArray.empty, 0, 0, 0, ())))) != x1 + 1 + 1) = true
          · rw [if_pos b3] at h
            subst h
            exact AtV.fin Try.func34 tabOk ext34Ok mixed (p34_3 v5 x0 x1) ⟨b0, s0, s1, trivial, b1, s2, s3, s4, b2, s5, s6, s7, b3, trivial⟩
          · rw [if_neg b3] at h
            replace b3 := Bool.eq_false_iff.2 b3
            obtain ⟨s8, h⟩ := h
            obtain ⟨s9, s10, h⟩ := h
            by_cases b4 : (Prod.fst (Prod.snd (Prod.snd (Prod.snd (List.getD x0 (Int.toNat v5) (ByteArray.empty, 0, 0, 0, ()))))) != x1 + 1 + 1 + 1) = true
            · rw [if_pos b4] at h
              subst h
              exact AtV.fin Try.func34 tabOk ext34Ok mixed (p34_4 v5 x0 x1) ⟨b0, s0, s1, trivial, b1, s2, s3, s4, b2, s5, s6, s7, b3, s8, s9, s10, b4, trivial⟩
            · rw [if_neg b4] at h
              replace b4 := Bool.eq_false_iff.2 b4
              obtain ⟨s11, h⟩ := h
              obtain ⟨s12, h⟩ := h
              exact AtV.runN tabOk ext34Ok mixed (p34_5 v5 x0 x1) ⟨b0, s0, s1, trivial, b1, s2, s3, s4, b2, s5, s6, s7, b3, s8, s9, s10, b4, s11, s12, trivial⟩ (ih2 _ _ _ _ h K q)
    · rw [if_neg b0] at h
      replace b0 := Bool.eq_false_iff.2 b0
      subst h
      exact AtV.fin Try.func34 tabOk ext34Ok mixed (p34_6 v5 x0 x1) ⟨b0, trivial⟩



theorem run34 (x0 : List (ByteArray × Int × Int × Int × Unit)) (x1 : Int) (hm : x0.length ≤ maxLen) (h0 : 0 ≤ x1) (h1 : x1 + 4 * x0.length ≤ 9223372036854775807) (he : ∀ i : Nat, i < x0.length → x0.getD i (ByteArray.empty, (0 : Int), (0 : Int), (0 : Int), ()) = (g46_0 (x1 + 4 * (i : Int)), (x1 + 4 * (i : Int) + 1), (x1 + 4 * (i : Int) + 1 + 1), (x1 + 4 * (i : Int) + 1 + 1 + 1), ())) : ∀ (k i : Nat), i + k = x0.length →
    R34_2 (k + 1) (i : Int) x0 (x1 + 4 * (i : Int)) [⟨.int .i64, x1 + 4 * (x0.length : Int)⟩] := by
  intro k
  induction k with
  | zero =>
    intro i hi
    rw [R34_2, if_neg (by simp; omega)]
    have : i = x0.length := by omega
    subst this
    rfl
  | succ k ih =>
    intro i hi
    rw [R34_2, if_pos (by simp; omega)]
    simp only [Int.toNat_natCast, he i (by omega)]
    have hb : ∀ y : ByteArray, (!(ByteArray.toList y == ByteArray.toList y)) = true → False := fun y h => by rw [(bytes_eq y y).2 rfl] at h; cases h
    refine ⟨by omega, by omega, ?_⟩
    rw [if_neg (hb _)]
    refine ⟨by rw [i64_iff]; omega, by omega, by omega, ?_⟩
    rw [if_neg (by simp only [bne_self_eq_false, Bool.false_eq_true, not_false_eq_true])]
    refine ⟨by rw [i64_iff]; omega, by omega, by omega, ?_⟩
    rw [if_neg (by simp only [bne_self_eq_false, Bool.false_eq_true, not_false_eq_true])]
    refine ⟨by rw [i64_iff]; omega, by omega, by omega, ?_⟩
    rw [if_neg (by simp only [bne_self_eq_false, Bool.false_eq_true, not_false_eq_true])]
    refine ⟨by rw [i64_iff]; omega, inR_up hm (by omega), ?_⟩
    have hx : x1 + 4 * (i : Int) + 1 + 1 + 1 + 1 = x1 + 4 * ((i + 1 : Nat) : Int) := by omega
    rw [hx]
    exact ih (i + 1) (by omega)

def P34 (x0 : List (ByteArray × Int × Int × Int × Unit)) (x1 : Int) : Prop := (0 ≤ x1 ∧ x1 + 4 * x0.length ≤ 9223372036854775807) ∧ ∀ i : Nat, i < x0.length → x0.getD i (ByteArray.empty, (0 : Int), (0 : Int), (0 : Int), ()) = (g46_0 (x1 + 4 * (i : Int)), (x1 + 4 * (i : Int) + 1), (x1 + 4 * (i : Int) + 1 + 1), (x1 + 4 * (i : Int) + 1 + 1 + 1), ())
def g34_0 (x0 : List (ByteArray × Int × Int × Int × Unit)) (x1 : Int) : Int := x1 + 4 * (x0.length : Int)

theorem top34 (x0 : List (ByteArray × Int × Int × Int × Unit)) (x1 : Int) (hm : x0.length ≤ maxLen) (h : P34 x0 x1) : R34 (x0.length + 1 + 1) x0 x1 [⟨.int .i64, g34_0 x0 x1⟩] := by
  rw [R34]
  have := run34 x0 x1 hm h.1.1 h.1.2 h.2 x0.length 0 (by omega)
  simpa [g34_0] using this

def S34 : Am.Spec := { sig := sig34, pre := fun ⟨x0, x1, _⟩ => P34 x0 x1, res := fun ⟨x0, x1, _⟩ => [⟨.int .i64, g34_0 x0 x1⟩] }
theorem con34 : Contract Try.prog 34 S34 := contract_of Try.func34 hb34 (Nat.le_of_ble_eq_true (by kernel_rfl)) (fun ⟨x0, x1, _⟩ h hwf K q =>
  (snd34 _).1 x0 x1 _ (top34 x0 x1 hwf.1.1 h) K q)

end Go.Proofs.Ytleifkpekoinlaa

/- Function 27 (laws.markTestS): its runs between cut points. Written by a program of this repo (gen). -/
set_option linter.unusedVariables false
set_option linter.unusedSimpArgs false
set_option maxRecDepth 100000
namespace Go.Proofs.Ytleifkpekoinlaa
open Go Go.Am Go.Proofs
def ext27 : Ext := []
theorem ext27Ok : ExtOk Try.prog ext27 := trivial
/-! Function 27. -/
noncomputable def b27 : Code := bodyOf Try.f27
theorem hb27 : Try.f27.body = some b27 := by kernel_rfl
def sig27 : List AT := [AT.own (Ty.cons (Ty.int IntKind.i64) (Ty.cons (Ty.int IntKind.i64) (Ty.cons (Ty.int IntKind.i64) Ty.unit))), AT.v (Ty.int IntKind.i64)]
def tys27 : List Ty := [Ty.int IntKind.i64]
def kds27 : List RK := []
def oks27 : List AT := owns sig27
def E27_2 (v5 : Int) (x1 : Int) (x0 : List (Int × Int × Int × Unit)) : Env := [(0, PV.a (Atom.osl 0 Option.none)), (1, PV.a (Atom.val (Value.int IntKind.i64 x1))), (5, PV.a (Atom.val (Value.int IntKind.i64 v5)))]
def L27_2 (v5 : Int) (x1 : Int) (x0 : List (Int × Int × Int × Unit)) : Heap := [Option.some (Arr.mk (Ty.cons (Ty.int IntKind.i64) (Ty.cons (Ty.int IntKind.i64) (Ty.cons (Ty.int IntKind.i64) Ty.unit))) x0 Bool.false Option.none Option.none)]
mutual
def R27 : Nat → List (Int × Int × Int × Unit) → Int → List Dyn → List (Option Lst) → Prop
  | 0, _, _, _, _ => False
  | n + 1, x0, x1, ds, us => (R27_2 n (0) (x1) (x0) ds us)
def R27_2 : Nat → Int → Int → List (Int × Int × Int × Unit) → List Dyn → List (Option Lst) → Prop
  | 0, _, _, _, _, _ => False
  | n + 1, v5, x1, x0, ds, us => (if (Decidable.decide (v5 < (↑(List.length x0) : Int))) = true then ((0 ≤ v5) ∧ (v5 < (↑(List.length x0) : Int)) ∧ ((InR IntKind.i64 (x1 + 1)) ∧ ((0 ≤ v5) ∧ (v5 < (↑(List.length (List.set x0 (Int.toNat v5) (x1, Prod.snd (List.getD x0 (Int.toNat v5) (0, 0, 0, ()))))) : Int)) ∧ ((InR IntKind.i64 (x1 + 1 + 1)) ∧ ((0 ≤ v5) ∧ (v5 < (↑(List.length (List.set (List.set x0 (Int.toNat v5) (x1, Prod.snd (List.getD x0 (Int.toNat v5) (0, 0, 0, ())))) (Int.toNat v5) (Prod.fst (List.getD (List.set x0 (Int.toNat v5) (x1, Prod.snd (List.getD x0 (Int.toNat v5) (0, 0, 0, ())))) (Int.toNat v5) (0, 0, 0, ())), x1 + 1, Prod.snd (Prod.snd (List.getD (List.set x0 (Int.toNat v5) (x1, Prod.snd (List.getD x0 (Int.toNat v5) (0, 0, 0, ())))) (Int.toNat v5) (0, 0, 0, ())))))) : Int)) ∧ ((InR IntKind.i64 (x1 + 1 + 1 + 1)) ∧ ((InR IntKind.i64 (v5 + 1)) ∧ (R27_2 n (v5 + 1) (x1 + 1 + 1 + 1) (List.set (List.set (List.set x0 (Int.toNat v5) (x1, Prod.snd (List.getD x0 (Int.toNat v5) (0, 0, 0, ())))) (Int.toNat v5) (Prod.fst (List.getD (List.set x0 (Int.toNat v5) (x1, Prod.snd (List.getD x0 (Int.toNat v5) (0, 0, 0, ())))) (Int.toNat v5) (0, 0, 0, ())), x1 + 1, Prod.snd (Prod.snd (List.getD (List.set x0 (Int.toNat v5) (x1, Prod.snd (List.getD x0 (Int.toNat v5) (0, 0, 0, ())))) (Int.toNat v5) (0, 0, 0, ()))))) (Int.toNat v5) (Prod.fst (List.getD (List.set (List.set x0 (Int.toNat v5) (x1, Prod.snd (List.getD x0 (Int.toNat v5) (0, 0, 0, ())))) (Int.toNat v5) (Prod.fst (List.getD (List.set x0 (Int.toNat v5) (x1, Prod.snd (List.getD x0 (Int.toNat v5) (0, 0, 0, ())))) (Int.toNat v5) (0, 0, 0, ())), x1 + 1, Prod.snd (Prod.snd (List.getD (List.set x0 (Int.toNat v5) (x1, Prod.snd (List.getD x0 (Int.toNat v5) (0, 0, 0, ())))) (Int.toNat v5) (0, 0, 0, ()))))) (Int.toNat v5) (0, 0, 0, ())), Prod.fst (Prod.snd (List.getD (List.set (List.set x0 (Int.toNat v5) (x1, Prod.snd (List.getD x0 (Int.toNat v5) (0, 0, 0, ())))) (Int.toNat v5) (Prod.fst (List.getD (List.set x0 (Int.toNat v5) (x1, Prod.snd (List.getD x0 (Int.toNat v5) (0, 0, 0, ())))) (Int.toNat v5) (0, 0, 0, ())), x1 + 1, Prod.snd (Prod.snd (List.getD (List.set x0 (Int.toNat v5) (x1, Prod.snd (List.getD x0 (Int.toNat v5) (0, 0, 0, ())))) (Int.toNat v5) (0, 0, 0, ()))))) (Int.toNat v5) (0, 0, 0, ()))), x1 + 1 + 1, Prod.snd (Prod.snd (Prod.snd (List.getD (List.set (List.set x0 (Int.toNat v5) (x1, Prod.snd (List.getD x0 (Int.toNat v5) (0, 0, 0, ())))) (Int.toNat v5) (Prod.fst (List.getD (List.set x0 (Int.toNat v5) (x1, Prod.snd (List.getD x0 (Int.toNat v5) (0, 0, 0, ())))) (Int.toNat v5) (0, 0, 0, ())), x1 + 1, Prod.snd (Prod.snd (List.getD (List.set x0 (Int.toNat v5) (x1, Prod.snd (List.getD x0 (Int.toNat v5) (0, 0, 0, ())))) (Int.toNat v5) (0, 0, 0, ()))))) (Int.toNat v5) (0, 0, 0, ())))))) ds us)))))))) else (ds = [Dyn.mk (Ty.int IntKind.i64) x1] ∧ us = [Option.some (Lst.mk (Ty.cons (Ty.int IntKind.i64) (Ty.cons (Ty.int IntKind.i64) (Ty.cons (Ty.int IntKind.i64) Ty.unit))) x0)]))
end
theorem p27_0 (x0 : List (Int × Int × Int × Unit)) (x1 : Int) : Am.runN tab ext27 false 34 [] 2000 [0] [] [0, 1, 5] [0] [] [.code b27] (entE 0 0 sig27 (x0, x1, ())) (entL sig27 (x0, x1, ())) = some (cutAt b27 2, E27_2 (0) (x1) (x0), L27_2 (0) (x1) (x0), []) := by kernel_rfl
theorem p27_1 (v5 : Int) (x1 : Int) (x0 : List (Int × Int × Int × Unit)) : Am.runN tab ext27 false 34 [] 2000 [0] [] [0, 1, 5] [0] [true] (cutAt b27 2) (E27_2 v5 x1 x0) (L27_2 v5 x1 x0) = some (cutAt b27 2, E27_2 (v5 + 1) (x1 + 1 + 1 + 1) (List.set (List.set (List.set x0 (Int.toNat v5) (x1, Prod.snd (List.getD x0 (Int.toNat v5) (0, 0, 0, ())))) (Int.toNat v5) (Prod.fst (List.getD (List.set x0 (Int.toNat v5) (x1, Prod.snd (List.getD x0 (Int.toNat v5) (0, 0, 0, ())))) (Int.toNat v5) (0, 0, 0, ())), x1 + 1, Prod.snd (Prod.snd (List.getD (List.set x0 (Int.toNat v5) (x1, Prod.snd (List.getD x0 (Int.toNat v5) (0, 0, 0, ())))) (Int.toNat v5) (0, 0, 0, ()))))) (Int.toNat v5) (Prod.fst (List.getD (List.set (List.set x0 (Int.toNat v5) (x1, Prod.snd (List.getD x0 (Int.toNat v5) (0, 0, 0, ())))) (Int.toNat v5) (Prod.fst (List.getD (List.set x0 (Int.toNat v5) (x1, Prod.snd (List.getD x0 (Int.toNat v5) (0, 0, 0, ())))) (Int.toNat v5) (0, 0, 0, ())), x1 + 1, Prod.snd (Prod.snd (List.getD (List.set x0 (Int.toNat v5) (x1, Prod.snd (List.getD x0 (Int.toNat v5) (0, 0, 0, ())))) (Int.toNat v5) (0, 0, 0, ()))))) (Int.toNat v5) (0, 0, 0, ())), Prod.fst (Prod.snd (List.getD (List.set (List.set x0 (Int.toNat v5) (x1, Prod.snd (List.getD x0 (Int.toNat v5) (0, 0, 0, ())))) (Int.toNat v5) (Prod.fst (List.getD (List.set x0 (Int.toNat v5) (x1, Prod.snd (List.getD x0 (Int.toNat v5) (0, 0, 0, ())))) (Int.toNat v5) (0, 0, 0, ())), x1 + 1, Prod.snd (Prod.snd (List.getD (List.set x0 (Int.toNat v5) (x1, Prod.snd (List.getD x0 (Int.toNat v5) (0, 0, 0, ())))) (Int.toNat v5) (0, 0, 0, ()))))) (Int.toNat v5) (0, 0, 0, ()))), x1 + 1 + 1, Prod.snd (Prod.snd (Prod.snd (List.getD (List.set (List.set x0 (Int.toNat v5) (x1, Prod.snd (List.getD x0 (Int.toNat v5) (0, 0, 0, ())))) (Int.toNat v5) (Prod.fst (List.getD (List.set x0 (Int.toNat v5) (x1, Prod.snd (List.getD x0 (Int.toNat v5) (0, 0, 0, ())))) (Int.toNat v5) (0, 0, 0, ())), x1 + 1, Prod.snd (Prod.snd (List.getD (List.set x0 (Int.toNat v5) (x1, Prod.snd (List.getD x0 (Int.toNat v5) (0, 0, 0, ())))) (Int.toNat v5) (0, 0, 0, ()))))) (Int.toNat v5) (0, 0, 0, ())))))), L27_2 (v5 + 1) (x1 + 1 + 1 + 1) (List.set (List.set (List.set x0 (Int.toNat v5) (x1, Prod.snd (List.getD x0 (Int.toNat v5) (0, 0, 0, ())))) (Int.toNat v5) (Prod.fst (List.getD (List.set x0 (Int.toNat v5) (x1, Prod.snd (List.getD x0 (Int.toNat v5) (0, 0, 0, ())))) (Int.toNat v5) (0, 0, 0, ())), x1 + 1, Prod.snd (Prod.snd (List.getD (List.set x0 (Int.toNat v5) (x1, Prod.snd (List.getD x0 (Int.toNat v5) (0, 0, 0, ())))) (Int.toNat v5) (0, 0, 0, ()))))) (Int.toNat v5) (Prod.fst (List.getD (List.set (List.set x0 (Int.toNat v5) (x1, Prod.snd (List.getD x0 (Int.toNat v5) (0, 0, 0, ())))) (Int.toNat v5) (Prod.fst (List.getD (List.set x0 (Int.toNat v5) (x1, Prod.snd (List.getD x0 (Int.toNat v5) (0, 0, 0, ())))) (Int.toNat v5) (0, 0, 0, ())), x1 + 1, Prod.snd (Prod.snd (List.getD (List.set x0 (Int.toNat v5) (x1, Prod.snd (List.getD x0 (Int.toNat v5) (0, 0, 0, ())))) (Int.toNat v5) (0, 0, 0, ()))))) (Int.toNat v5) (0, 0, 0, ())), Prod.fst (Prod.snd (List.getD (List.set (List.set x0 (Int.toNat v5) (x1, Prod.snd (List.getD x0 (Int.toNat v5) (0, 0, 0, ())))) (Int.toNat v5) (Prod.fst (List.getD (List.set x0 (Int.toNat v5) (x1, Prod.snd (List.getD x0 (Int.toNat v5) (0, 0, 0, ())))) (Int.toNat v5) (0, 0, 0, ())), x1 + 1, Prod.snd (Prod.snd (List.getD (List.set x0 (Int.toNat v5) (x1, Prod.snd (List.getD x0 (Int.toNat v5) (0, 0, 0, ())))) (Int.toNat v5) (0, 0, 0, ()))))) (Int.toNat v5) (0, 0, 0, ()))), x1 + 1 + 1, Prod.snd (Prod.snd (Prod.snd (List.getD (List.set (List.set x0 (Int.toNat v5) (x1, Prod.snd (List.getD x0 (Int.toNat v5) (0, 0, 0, ())))) (Int.toNat v5) (Prod.fst (List.getD (List.set x0 (Int.toNat v5) (x1, Prod.snd (List.getD x0 (Int.toNat v5) (0, 0, 0, ())))) (Int.toNat v5) (0, 0, 0, ())), x1 + 1, Prod.snd (Prod.snd (List.getD (List.set x0 (Int.toNat v5) (x1, Prod.snd (List.getD x0 (Int.toNat v5) (0, 0, 0, ())))) (Int.toNat v5) (0, 0, 0, ()))))) (Int.toNat v5) (0, 0, 0, ())))))), [Decidable.decide (v5 < (↑(List.length x0) : Int)) = Bool.true, 0 ≤ v5, v5 < (↑(List.length x0) : Int), InR IntKind.i64 (x1 + 1), 0 ≤ v5, v5 < (↑(List.length (List.set x0 (Int.toNat v5) (x1, Prod.snd (List.getD x0 (Int.toNat v5) (0, 0, 0, ()))))) : Int), InR IntKind.i64 (x1 + 1 + 1), 0 ≤ v5, v5 < (↑(List.length (List.set (List.set x0 (Int.toNat v5) (x1, Prod.snd (List.getD x0 (Int.toNat v5) (0, 0, 0, ())))) (Int.toNat v5) (Prod.fst (List.getD (List.set x0 (Int.toNat v5) (x1, Prod.snd (List.getD x0 (Int.toNat v5) (0, 0, 0, ())))) (Int.toNat v5) (0, 0, 0, ())), x1 + 1, Prod.snd (Prod.snd (List.getD (List.set x0 (Int.toNat v5) (x1, Prod.snd (List.getD x0 (Int.toNat v5) (0, 0, 0, ())))) (Int.toNat v5) (0, 0, 0, ())))))) : Int), InR IntKind.i64 (x1 + 1 + 1 + 1), InR IntKind.i64 (v5 + 1)]) := by kernel_rfl
theorem p27_2 (v5 : Int) (x1 : Int) (x0 : List (Int × Int × Int × Unit)) : runF tab ext27 false 34 [] 2000 [0] oks27 kds27 tys27 Try.f27.results [false] (cutAt b27 2) (E27_2 v5 x1 x0) (L27_2 v5 x1 x0) = some ([Dyn.mk (Ty.int IntKind.i64) x1], [Option.some (Lst.mk (Ty.cons (Ty.int IntKind.i64) (Ty.cons (Ty.int IntKind.i64) (Ty.cons (Ty.int IntKind.i64) Ty.unit))) x0)], [Decidable.decide (v5 < (↑(List.length x0) : Int)) = Bool.false]) := by kernel_rfl
theorem snd27 : ∀ n, (∀ (x0 : List (Int × Int × Int × Unit)) (x1 : Int) ds us, R27 n x0 x1 ds us → ∀ K q, AtV Try.prog 27 (PostR kds27 oks27 ds us [0] q K) 34 K q [0] [.code b27] (entE 0 0 sig27 (x0, x1, ())) (entL sig27 (x0, x1, ()))) ∧ (∀ (v5 : Int) (x1 : Int) (x0 : List (Int × Int × Int × Unit)) ds us, R27_2 n v5 x1 x0 ds us → ∀ K q, AtV Try.prog 27 (PostR kds27 oks27 ds us [0] q K) 34 K q [0] (cutAt b27 2) (E27_2 v5 x1 x0) (L27_2 v5 x1 x0)) := by
  intro n
  induction n with
  | zero => exact ⟨fun _ _ _ _ h => by simp only [R27] at h, fun _ _ _ _ _ h => by simp only [R27_2] at h⟩
  | succ n ih =>
  obtain ⟨ih, ih2⟩ := ih
  refine ⟨?_, ?_⟩
  · intro x0 x1 ds us h K q
    rw [R27] at h
    exact AtV.runN tabOk ext27Ok mixed (p27_0 x0 x1) trivial (ih2 _ _ _ _ _ h K q)

  · intro v5 x1 x0 ds us h K q
    rw [R27_2] at h
    by_cases b0 : (Decidable.decide (v5 < (↑(List.length x0) : Int))) = true
    · rw [if_pos b0] at h
      obtain ⟨s0, s1, h⟩ := h
      obtain ⟨s2, h⟩ := h
      obtain ⟨s3, s4, h⟩ := h
      obtain ⟨s5, h⟩ := h
      obtain ⟨s6, s7, h⟩ := h
      obtain ⟨s8, h⟩ := h
      obtain ⟨s9, h⟩ := h
      exact AtV.runN tabOk ext27Ok mixed (p27_1 v5 x1 x0) ⟨b0, s0, s1, s2, s3, s4, s5, s6, s7, s8, s9, trivial⟩ (ih2 _ _ _ _ _ h K q)
    · rw [if_neg b0] at h
      replace b0 := Bool.eq_false_iff.2 b0
      obtain ⟨h, h'⟩ := h; subst h; subst h'
      exact AtV.fin Try.func27 tabOk ext27Ok mixed (p27_2 v5 x1 x0) ⟨b0, trivial⟩



def M27 (x1 : Int) (n : Nat) : List (Int × Int × Int × Unit) := (List.range n).map fun (j : Nat) => ((x1 + 3 * (j : Int)), (x1 + 3 * (j : Int) + 1), (x1 + 3 * (j : Int) + 1 + 1), ())

theorem M27_len (x1 : Int) (n : Nat) : (M27 x1 n).length = n := by simp [M27]

theorem M27_succ (x1 : Int) (n : Nat) : M27 x1 (n + 1) = M27 x1 n ++ [((x1 + 3 * (n : Int)), (x1 + 3 * (n : Int) + 1), (x1 + 3 * (n : Int) + 1 + 1), ())] := by
  simp [M27, List.range_succ]

theorem run27 (x0 : List (Int × Int × Int × Unit)) (x1 : Int) (hm : x0.length ≤ maxLen) (h0 : 0 ≤ x1) (h1 : x1 + 3 * x0.length ≤ 9223372036854775807) : ∀ (k i : Nat), i + k = x0.length →
    R27_2 (k + 1) (i : Int) (x1 + 3 * (i : Int)) (M27 x1 i ++ x0.drop i) [⟨.int .i64, x1 + 3 * (x0.length : Int)⟩] [some ⟨(.cons (.int .i64) (.cons (.int .i64) (.cons (.int .i64) .unit))), M27 x1 x0.length⟩] := by
  intro k
  induction k with
  | zero =>
    intro i hi
    have hl : (M27 x1 i ++ x0.drop i).length = x0.length := by simp [M27_len]; omega
    rw [R27_2, if_neg (by rw [hl]; simp; omega), drop_end x0 i (by omega), List.append_nil]
    have : i = x0.length := by omega
    subst this
    exact ⟨rfl, rfl⟩
  | succ k ih =>
    intro i hi
    have hl : (M27 x1 i ++ x0.drop i).length = x0.length := by simp [M27_len]; omega
    have hA := M27_len x1 i
    rw [R27_2, if_pos (by rw [hl]; simp; omega)]
    rw [drop_get x0 i ((0 : Int), (0 : Int), (0 : Int), ()) (by omega)] at hl ⊢
    simp only [Int.toNat_natCast, set_mid _ _ _ _ i hA, get_mid _ _ _ _ i hA]
    have hl' : ∀ y : (Int × Int × Int × Unit), ((M27 x1 i ++ y :: x0.drop (i + 1)).length : Int) = x0.length := fun y => by rw [← hl]; simp
    simp only [hl']
    refine ⟨by omega, by omega, by rw [i64_iff]; omega, by omega, by omega, by rw [i64_iff]; omega, by omega, by omega, by rw [i64_iff]; omega, inR_up hm (by omega), ?_⟩
    have hx : x1 + 3 * (i : Int) + 1 + 1 + 1 = x1 + 3 * ((i + 1 : Nat) : Int) := by omega
    have := ih (i + 1) (by omega)
    rw [M27_succ, List.append_assoc] at this
    rw [hx]
    simpa using this

def P27 (x0 : List (Int × Int × Int × Unit)) (x1 : Int) : Prop := 0 ≤ x1 ∧ x1 + 3 * x0.length ≤ 9223372036854775807
def g27_0 (x0 : List (Int × Int × Int × Unit)) (x1 : Int) : Int := x1 + 3 * (x0.length : Int)
def u27_0 (x0 : List (Int × Int × Int × Unit)) (x1 : Int) : List (Int × Int × Int × Unit) := M27 x1 x0.length

theorem top27 (x0 : List (Int × Int × Int × Unit)) (x1 : Int) (hm : x0.length ≤ maxLen) (h : P27 x0 x1) : R27 (x0.length + 1 + 1) x0 x1 [⟨.int .i64, g27_0 x0 x1⟩] [some ⟨(.cons (.int .i64) (.cons (.int .i64) (.cons (.int .i64) .unit))), u27_0 x0 x1⟩] := by
  rw [R27]
  have := run27 x0 x1 hm h.1 h.2 x0.length 0 (by omega)
  simpa [M27, g27_0, u27_0] using this

def S27 : Am.Spec := { sig := sig27, pre := fun ⟨x0, x1, _⟩ => P27 x0 x1, upd := fun ⟨x0, x1, _⟩ => [some ⟨(.cons (.int .i64) (.cons (.int .i64) (.cons (.int .i64) .unit))), u27_0 x0 x1⟩], res := fun ⟨x0, x1, _⟩ => [⟨.int .i64, g27_0 x0 x1⟩] }
theorem con27 : Contract Try.prog 27 S27 := contract_of Try.func27 hb27 (Nat.le_of_ble_eq_true (by kernel_rfl)) (fun ⟨x0, x1, _⟩ h hwf K q =>
  (snd27 _).1 x0 x1 _ _ (top27 x0 x1 hwf.1.1 h) K q)

end Go.Proofs.Ytleifkpekoinlaa

/- Function 35 (laws.heldTestS): its runs between cut points. Written by a program of this repo (gen). -/
set_option linter.unusedVariables false
set_option linter.unusedSimpArgs false
set_option maxRecDepth 100000
namespace Go.Proofs.Ytleifkpekoinlaa
open Go Go.Am Go.Proofs
def ext35 : Ext := []
theorem ext35Ok : ExtOk Try.prog ext35 := trivial
/-! Function 35. -/
noncomputable def b35 : Code := bodyOf Try.f35
theorem hb35 : Try.f35.body = some b35 := by kernel_rfl
def sig35 : List AT := [AT.v (Ty.sl (Ty.cons (Ty.int IntKind.i64) (Ty.cons (Ty.int IntKind.i64) (Ty.cons (Ty.int IntKind.i64) Ty.unit)))), AT.v (Ty.int IntKind.i64)]
def tys35 : List Ty := [Ty.int IntKind.i64]
def kds35 : List RK := []
def oks35 : List AT := owns sig35
def E35_2 (v5 : Int) (x0 : List (Int × Int × Int × Unit)) (x1 : Int) : Env := [(0, PV.a (Atom.sl (Ty.cons (Ty.int IntKind.i64) (Ty.cons (Ty.int IntKind.i64) (Ty.cons (Ty.int IntKind.i64) Ty.unit))) x0)), (1, PV.a (Atom.val (Value.int IntKind.i64 x1))), (5, PV.a (Atom.val (Value.int IntKind.i64 v5)))]
def L35_2 (v5 : Int) (x0 : List (Int × Int × Int × Unit)) (x1 : Int) : Heap := []
mutual
def R35 : Nat → List (Int × Int × Int × Unit) → Int → List Dyn → Prop
  | 0, _, _, _ => False
  | n + 1, x0, x1, ds => (R35_2 n (0) (x0) (x1) ds)
def R35_2 : Nat → Int → List (Int × Int × Int × Unit) → Int → List Dyn → Prop
  | 0, _, _, _, _ => False
  | n + 1, v5, x0, x1, ds => (if (Decidable.decide (v5 < (↑(List.length x0) : Int))) = true then ((0 ≤ v5) ∧ (v5 < (↑(List.length x0) : Int)) ∧ (if (Prod.fst (List.getD x0 (Int.toNat v5) (0, 0, 0, ())) != x1) = true then (ds = [Dyn.mk (Ty.int IntKind.i64) (-1)]) else ((InR IntKind.i64 (x1 + 1)) ∧ ((0 ≤ v5) ∧ (v5 < (↑(List.length x0) : Int)) ∧ (if (Prod.fst (Prod.snd (List.getD x0 (Int.toNat v5) (0, 0, 0, ()))) != x1 + 1) = true then (ds = [Dyn.mk (Ty.int IntKind.i64) (-1)]) else ((InR IntKind.i64 (x1 + 1 + 1)) ∧ ((0 ≤ v5) ∧ (v5 < (↑(List.length x0) : Int)) ∧ (if (Prod.fst (Prod.snd (Prod.snd (List.getD x0 (Int.toNat v5) (0, 0, 0, ())))) != x1 + 1 + 1) = true then (ds = [Dyn.mk (Ty.int IntKind.i64) (-1)]) else ((InR IntKind.i64 (x1 + 1 + 1 + 1)) ∧ ((InR IntKind.i64 (v5 + 1)) ∧ (R35_2 n (v5 + 1) (x0) (x1 + 1 + 1 + 1) ds))))))))))) else (ds = [Dyn.mk (Ty.int IntKind.i64) x1]))
end
theorem p35_0 (x0 : List (Int × Int × Int × Unit)) (x1 : Int) : Am.runN tab ext35 false 40 [] 2000 [] [] [0, 1, 5] [] [] [.code b35] (entE 0 0 sig35 (x0, x1, ())) (entL sig35 (x0, x1, ())) = some (cutAt b35 2, E35_2 (0) (x0) (x1), L35_2 (0) (x0) (x1), []) := by kernel_rfl
theorem p35_1 (v5 : Int) (x0 : List (Int × Int × Int × Unit)) (x1 : Int) : runF tab ext35 false 40 [] 2000 [] oks35 kds35 tys35 Try.f35.results [true, true] (cutAt b35 2) (E35_2 v5 x0 x1) (L35_2 v5 x0 x1) = some ([Dyn.mk (Ty.int IntKind.i64) (-1)], [], [Decidable.decide (v5 < (↑(List.length x0) : Int)) = Bool.true, 0 ≤ v5, v5 < (↑(List.length x0) : Int), (Prod.fst (List.getD x0 (Int.toNat v5) (0, 0, 0, ())) != x1) = Bool.true]) := by kernel_rfl
theorem p35_2 (v5 : Int) (x0 : List (Int × Int × Int × Unit)) (x1 : Int) : runF tab ext35 false 40 [] 2000 [] oks35 kds35 tys35 Try.f35.results [true, false, true] (cutAt b35 2) (E35_2 v5 x0 x1) (L35_2 v5 x0 x1) = some ([Dyn.mk (Ty.int IntKind.i64) (-1)], [], [Decidable.decide (v5 < (↑(List.length x0) : Int)) = Bool.true, 0 ≤ v5, v5 < (↑(List.length x0) : Int), (Prod.fst (List.getD x0 (Int.toNat v5) (0, 0, 0, ())) != x1) = Bool.false, InR IntKind.i64 (x1 + 1), 0 ≤ v5, v5 < (↑(List.length x0) : Int), (Prod.fst (Prod.snd (List.getD x0 (Int.toNat v5) (0, 0, 0, ()))) != x1 + 1) = Bool.true]) := by kernel_rfl
theorem p35_3 (v5 : Int) (x0 : List (Int × Int × Int × Unit)) (x1 : Int) : runF tab ext35 false 40 [] 2000 [] oks35 kds35 tys35 Try.f35.results [true, false, false, true] (cutAt b35 2) (E35_2 v5 x0 x1) (L35_2 v5 x0 x1) = some ([Dyn.mk (Ty.int IntKind.i64) (-1)], [], [Decidable.decide (v5 < (↑(List.length x0) : Int)) = Bool.true, 0 ≤ v5, v5 < (↑(List.length x0) : Int), (Prod.fst (List.getD x0 (Int.toNat v5) (0, 0, 0, ())) != x1) = Bool.false, InR IntKind.i64 (x1 + 1), 0 ≤ v5, v5 < (↑(List.length x0) : Int), (Prod.fst (Prod.snd (List.getD x0 (Int.toNat v5) (0, 0, 0, ()))) != x1 + 1) = Bool.false, InR IntKind.i64 (x1 + 1 + 1), 0 ≤ v5, v5 < (↑(List.length x0) : Int), (Prod.fst (Prod.snd (Prod.snd (List.getD x0 (Int.toNat v5) (0, 0, 0, ())))) != x1 + 1 + 1) = Bool.true]) := by kernel_rfl
theorem p35_4 (v5 : Int) (x0 : List (Int × Int × Int × Unit)) (x1 : Int) : Am.runN tab ext35 false 40 [] 2000 [] [] [0, 1, 5] [] [true, false, false, false] (cutAt b35 2) (E35_2 v5 x0 x1) (L35_2 v5 x0 x1) = some (cutAt b35 2, E35_2 (v5 + 1) (x0) (x1 + 1 + 1 + 1), L35_2 (v5 + 1) (x0) (x1 + 1 + 1 + 1), [Decidable.decide (v5 < (↑(List.length x0) : Int)) = Bool.true, 0 ≤ v5, v5 < (↑(List.length x0) : Int), (Prod.fst (List.getD x0 (Int.toNat v5) (0, 0, 0, ())) != x1) = Bool.false, InR IntKind.i64 (x1 + 1), 0 ≤ v5, v5 < (↑(List.length x0) : Int), (Prod.fst (Prod.snd (List.getD x0 (Int.toNat v5) (0, 0, 0, ()))) != x1 + 1) = Bool.false, InR IntKind.i64 (x1 + 1 + 1), 0 ≤ v5, v5 < (↑(List.length x0) : Int), (Prod.fst (Prod.snd (Prod.snd (List.getD x0 (Int.toNat v5) (0, 0, 0, ())))) != x1 + 1 + 1) = Bool.false, InR IntKind.i64 (x1 + 1 + 1 + 1), InR IntKind.i64 (v5 + 1)]) := by kernel_rfl
theorem p35_5 (v5 : Int) (x0 : List (Int × Int × Int × Unit)) (x1 : Int) : runF tab ext35 false 40 [] 2000 [] oks35 kds35 tys35 Try.f35.results [false] (cutAt b35 2) (E35_2 v5 x0 x1) (L35_2 v5 x0 x1) = some ([Dyn.mk (Ty.int IntKind.i64) x1], [], [Decidable.decide (v5 < (↑(List.length x0) : Int)) = Bool.false]) := by kernel_rfl
theorem snd35 : ∀ n, (∀ (x0 : List (Int × Int × Int × Unit)) (x1 : Int) ds, R35 n x0 x1 ds → ∀ K q, AtV Try.prog 35 (PostR kds35 oks35 ds [] [] q K) 40 K q [] [.code b35] (entE 0 0 sig35 (x0, x1, ())) (entL sig35 (x0, x1, ()))) ∧ (∀ (v5 : Int) (x0 : List (Int × Int × Int × Unit)) (x1 : Int) ds, R35_2 n v5 x0 x1 ds → ∀ K q, AtV Try.prog 35 (PostR kds35 oks35 ds [] [] q K) 40 K q [] (cutAt b35 2) (E35_2 v5 x0 x1) (L35_2 v5 x0 x1)) := by
  intro n
  induction n with
  | zero => exact ⟨fun _ _ _ h => by simp only [R35] at h, fun _ _ _ _ h => by simp only [R35_2] at h⟩
  | succ n ih =>
  obtain ⟨ih, ih2⟩ := ih
  refine ⟨?_, ?_⟩
  · intro x0 x1 ds h K q
    rw [R35] at h
    exact AtV.runN tabOk ext35Ok mixed (p35_0 x0 x1) trivial (ih2 _ _ _ _ h K q)

  · intro v5 x0 x1 ds h K q
    rw [R35_2] at h
    by_cases b0 : (Decidable.decide (v5 < (↑(List.length x0) : Int))) = true
    · rw [if_pos b0] at h
      obtain ⟨s0, s1, h⟩ := h
      by_cases b1 : (Prod.fst (List.getD x0 (Int.toNat v5) (0, 0, 0, ())) != x1) = true
      · rw [if_pos b1] at h
        subst h
        exact AtV.fin Try.func35 tabOk ext35Ok mixed (p35_1 v5 x0 x1) ⟨b0, s0, s1, b1, trivial⟩
      · rw [if_neg b1] at h
        replace b1 := Bool.eq_false_iff.2 b1
        obtain ⟨s2, h⟩ := h
        obtain ⟨s3, s4, h⟩ := h
        by_cases b2 : (Prod.fst (Prod.snd (List.getD x0 (Int.toNat v5) (0, 0, 0, ()))) != x1 + 1) = true
        · rw [if_pos b2] at h
          subst h
          exact AtV.fin Try.func35 tabOk ext35Ok mixed (p35_2 v5 x0 x1) ⟨b0, s0, s1, b1, s2, s3, s4, b2, trivial⟩
        · rw [if_neg b2] at h
          replace b2 := Bool.eq_false_iff.2 b2
          obtain ⟨s5, h⟩ := h
          obtain ⟨s6, s7, h⟩ := h
          by_cases b3 : (Prod.fst (Prod.snd (Prod.snd (List.getD x0 (Int.toNat v5) (0, 0, 0, ())))) != x1 + 1 + 1) = true
          · rw [if_pos b3] at h
            subst h
            exact AtV.fin Try.func35 tabOk ext35Ok mixed (p35_3 v5 x0 x1) ⟨b0, s0, s1, b1, s2, s3, s4, b2, s5, s6, s7, b3, trivial⟩
          · rw [if_neg b3] at h
            replace b3 := Bool.eq_false_iff.2 b3
            obtain ⟨s8, h⟩ := h
            obtain ⟨s9, h⟩ := h
            exact AtV.runN tabOk ext35Ok mixed (p35_4 v5 x0 x1) ⟨b0, s0, s1, b1, s2, s3, s4, b2, s5, s6, s7, b3, s8, s9, trivial⟩ (ih2 _ _ _ _ h K q)
    · rw [if_neg b0] at h
      replace b0 := Bool.eq_false_iff.2 b0
      subst h
      exact AtV.fin Try.func35 tabOk ext35Ok mixed (p35_5 v5 x0 x1) ⟨b0, trivial⟩



theorem run35 (x0 : List (Int × Int × Int × Unit)) (x1 : Int) (hm : x0.length ≤ maxLen) (h0 : 0 ≤ x1) (h1 : x1 + 3 * x0.length ≤ 9223372036854775807) (he : ∀ i : Nat, i < x0.length → x0.getD i ((0 : Int), (0 : Int), (0 : Int), ()) = ((x1 + 3 * (i : Int)), (x1 + 3 * (i : Int) + 1), (x1 + 3 * (i : Int) + 1 + 1), ())) : ∀ (k i : Nat), i + k = x0.length →
    R35_2 (k + 1) (i : Int) x0 (x1 + 3 * (i : Int)) [⟨.int .i64, x1 + 3 * (x0.length : Int)⟩] := by
  intro k
  induction k with
  | zero =>
    intro i hi
    rw [R35_2, if_neg (by simp; omega)]
    have : i = x0.length := by omega
    subst this
    rfl
  | succ k ih =>
    intro i hi
    rw [R35_2, if_pos (by simp; omega)]
    simp only [Int.toNat_natCast, he i (by omega)]
    have hb : ∀ y : ByteArray, (!(ByteArray.toList y == ByteArray.toList y)) = true → False := fun y h => by rw [(bytes_eq y y).2 rfl] at h; cases h
    refine ⟨by omega, by omega, ?_⟩
    rw [if_neg (by simp only [bne_self_eq_false, Bool.false_eq_true, not_false_eq_true])]
    refine ⟨by rw [i64_iff]; omega, by omega, by omega, ?_⟩
    rw [if_neg (by simp only [bne_self_eq_false, Bool.false_eq_true, not_false_eq_true])]
    refine ⟨by rw [i64_iff]; omega, by omega, by omega, ?_⟩
    rw [if_neg (by simp only [bne_self_eq_false, Bool.false_eq_true, not_false_eq_true])]
    refine ⟨by rw [i64_iff]; omega, inR_up hm (by omega), ?_⟩
    have hx : x1 + 3 * (i : Int) + 1 + 1 + 1 = x1 + 3 * ((i + 1 : Nat) : Int) := by omega
    rw [hx]
    exact ih (i + 1) (by omega)

def P35 (x0 : List (Int × Int × Int × Unit)) (x1 : Int) : Prop := (0 ≤ x1 ∧ x1 + 3 * x0.length ≤ 9223372036854775807) ∧ ∀ i : Nat, i < x0.length → x0.getD i ((0 : Int), (0 : Int), (0 : Int), ()) = ((x1 + 3 * (i : Int)), (x1 + 3 * (i : Int) + 1), (x1 + 3 * (i : Int) + 1 + 1), ())
def g35_0 (x0 : List (Int × Int × Int × Unit)) (x1 : Int) : Int := x1 + 3 * (x0.length : Int)

theorem top35 (x0 : List (Int × Int × Int × Unit)) (x1 : Int) (hm : x0.length ≤ maxLen) (h : P35 x0 x1) : R35 (x0.length + 1 + 1) x0 x1 [⟨.int .i64, g35_0 x0 x1⟩] := by
  rw [R35]
  have := run35 x0 x1 hm h.1.1 h.1.2 h.2 x0.length 0 (by omega)
  simpa [g35_0] using this

def S35 : Am.Spec := { sig := sig35, pre := fun ⟨x0, x1, _⟩ => P35 x0 x1, res := fun ⟨x0, x1, _⟩ => [⟨.int .i64, g35_0 x0 x1⟩] }
theorem con35 : Contract Try.prog 35 S35 := contract_of Try.func35 hb35 (Nat.le_of_ble_eq_true (by kernel_rfl)) (fun ⟨x0, x1, _⟩ h hwf K q =>
  (snd35 _).1 x0 x1 _ (top35 x0 x1 hwf.1.1 h) K q)

end Go.Proofs.Ytleifkpekoinlaa

/- Function 28 (laws.markHelperS): its runs between cut points. Written by a program of this repo (gen). -/
set_option linter.unusedVariables false
set_option linter.unusedSimpArgs false
set_option maxRecDepth 100000
namespace Go.Proofs.Ytleifkpekoinlaa
open Go Go.Am Go.Proofs
def ext28 : Ext := [(46, S46)]
theorem call28_46 : Callable Try.prog 46 := ⟨Try.f46, Try.func46, by kernel_rfl, by kernel_rfl⟩
theorem ext28Ok : ExtOk Try.prog ext28 := ⟨⟨call28_46, con46⟩, trivial⟩
/-! Function 28. -/
noncomputable def b28 : Code := bodyOf Try.f28
theorem hb28 : Try.f28.body = some b28 := by kernel_rfl
def sig28 : List AT := [AT.own (Ty.cons Ty.str (Ty.cons (Ty.int IntKind.i64) (Ty.cons (Ty.int IntKind.i64) Ty.unit))), AT.v (Ty.int IntKind.i64)]
def tys28 : List Ty := [Ty.int IntKind.i64]
def kds28 : List RK := []
def oks28 : List AT := owns sig28
def E28_2 (v5 : Int) (x1 : Int) (x0 : List (ByteArray × Int × Int × Unit)) : Env := [(0, PV.a (Atom.osl 0 Option.none)), (1, PV.a (Atom.val (Value.int IntKind.i64 x1))), (5, PV.a (Atom.val (Value.int IntKind.i64 v5)))]
def L28_2 (v5 : Int) (x1 : Int) (x0 : List (ByteArray × Int × Int × Unit)) : Heap := [Option.some (Arr.mk (Ty.cons Ty.str (Ty.cons (Ty.int IntKind.i64) (Ty.cons (Ty.int IntKind.i64) Ty.unit))) x0 Bool.false Option.none Option.none)]
mutual
def R28 : Nat → List (ByteArray × Int × Int × Unit) → Int → List Dyn → List (Option Lst) → Prop
  | 0, _, _, _, _ => False
  | n + 1, x0, x1, ds, us => (R28_2 n (0) (x1) (x0) ds us)
def R28_2 : Nat → Int → Int → List (ByteArray × Int × Int × Unit) → List Dyn → List (Option Lst) → Prop
  | 0, _, _, _, _, _ => False
  | n + 1, v5, x1, x0, ds, us => (if (Decidable.decide (v5 < (↑(List.length x0) : Int))) = true then ((0 ≤ v5) ∧ (v5 < (↑(List.length x0) : Int)) ∧ ((InR IntKind.i64 (x1 + 1)) ∧ ((0 ≤ v5) ∧ (v5 < (↑(List.length (List.set x0 (Int.toNat v5) (g46_0 x1, Prod.snd (List.getD x0 (Int.toNat v5) (ByteArray.empty, 0, 0, ()))))) : Int)) ∧ ((InR IntKind.i64 (x1 + 1 + 1)) ∧ ((0 ≤ v5) ∧ (v5 < (↑(List.length (List.set (List.set x0 (Int.toNat v5) (g46_0 x1, Prod.snd (List.getD x0 (Int.toNat v5) (ByteArray.empty, 0, 0, ())))) (Int.toNat v5) (Prod.fst (List.getD (List.set x0 (Int.toNat v5) (g46_0 x1, Prod.snd (List.getD x0 (Int.toNat v5) (ByteArray.empty, 0, 0, ())))) (Int.toNat v5) (ByteArray.empty, 0, 0, ())), x1 + 1, Prod.snd (Prod.snd (List.getD (List.set x0 (Int.toNat v5) (g46_0 x1, Prod.snd (List.getD x0 (Int.toNat v5) (ByteArray.empty, 0, 0, ())))) (Int.toNat v5) (ByteArray.empty, 0, 0, ())))))) : Int)) ∧ ((InR IntKind.i64 (x1 + 1 + 1 + 1)) ∧ ((InR IntKind.i64 (v5 + 1)) ∧ (R28_2 n (v5 + 1) (x1 + 1 + 1 + 1) (List.set (List.set (List.set x0 (Int.toNat v5) (g46_0 x1, Prod.snd (List.getD x0 (Int.toNat v5) (ByteArray.empty, 0, 0, ())))) (Int.toNat v5) (Prod.fst (List.getD (List.set x0 (Int.toNat v5) (g46_0 x1, Prod.snd (List.getD x0 (Int.toNat v5) (ByteArray.empty, 0, 0, ())))) (Int.toNat v5) (ByteArray.empty, 0, 0, ())), x1 + 1, Prod.snd (Prod.snd (List.getD (List.set x0 (Int.toNat v5) (g46_0 x1, Prod.snd (List.getD x0 (Int.toNat v5) (ByteArray.empty, 0, 0, ())))) (Int.toNat v5) (ByteArray.empty, 0, 0, ()))))) (Int.toNat v5) (Prod.fst (List.getD (List.set (List.set x0 (Int.toNat v5) (g46_0 x1, Prod.snd (List.getD x0 (Int.toNat v5) (ByteArray.empty, 0, 0, ())))) (Int.toNat v5) (Prod.fst (List.getD (List.set x0 (Int.toNat v5) (g46_0 x1, Prod.snd (List.getD x0 (Int.toNat v5) (ByteArray.empty, 0, 0, ())))) (Int.toNat v5) (ByteArray.empty, 0, 0, ())), x1 + 1, Prod.snd (Prod.snd (List.getD (List.set x0 (Int.toNat v5) (g46_0 x1, Prod.snd (List.getD x0 (Int.toNat v5) (ByteArray.empty, 0, 0, ())))) (Int.toNat v5) (ByteArray.empty, 0, 0, ()))))) (Int.toNat v5) (ByteArray.empty, 0, 0, ())), Prod.fst (Prod.snd (List.getD (List.set (List.set x0 (Int.toNat v5) (g46_0 x1, Prod.snd (List.getD x0 (Int.toNat v5) (ByteArray.empty, 0, 0, ())))) (Int.toNat v5) (Prod.fst (List.getD (List.set x0 (Int.toNat v5) (g46_0 x1, Prod.snd (List.getD x0 (Int.toNat v5) (ByteArray.empty, 0, 0, ())))) (Int.toNat v5) (ByteArray.empty, 0, 0, ())), x1 + 1, Prod.snd (Prod.snd (List.getD (List.set x0 (Int.toNat v5) (g46_0 x1, Prod.snd (List.getD x0 (Int.toNat v5) (ByteArray.empty, 0, 0, ())))) (Int.toNat v5) (ByteArray.empty, 0, 0, ()))))) (Int.toNat v5) (ByteArray.empty, 0, 0, ()))), x1 + 1 + 1, Prod.snd (Prod.snd (Prod.snd (List.getD (List.set (List.set x0 (Int.toNat v5) (g46_0 x1, Prod.snd (List.getD x0 (Int.toNat v5) (ByteArray.empty, 0, 0, ())))) (Int.toNat v5) (Prod.fst (List.getD (List.set x0 (Int.toNat v5) (g46_0 x1, Prod.snd (List.getD x0 (Int.toNat v5) (ByteArray.empty, 0, 0, ())))) (Int.toNat v5) (ByteArray.empty, 0, 0, ())), x1 + 1, Prod.snd (Prod.snd (List.getD (List.set x0 (Int.toNat v5) (g46_0 x1, Prod.snd (List.getD x0 (Int.toNat v5) (ByteArray.empty, 0, 0, ())))) (Int.toNat v5) (ByteArray.empty, 0, 0, ()))))) (Int.toNat v5) (ByteArray.empty, 0, 0, ())))))) ds us)))))))) else (ds = [Dyn.mk (Ty.int IntKind.i64) x1] ∧ us = [Option.some (Lst.mk (Ty.cons Ty.str (Ty.cons (Ty.int IntKind.i64) (Ty.cons (Ty.int IntKind.i64) Ty.unit))) x0)]))
end
theorem p28_0 (x0 : List (ByteArray × Int × Int × Unit)) (x1 : Int) : Am.runN tab ext28 false 35 [] 2000 [0] [] [0, 1, 5] [0] [] [.code b28] (entE 0 0 sig28 (x0, x1, ())) (entL sig28 (x0, x1, ())) = some (cutAt b28 2, E28_2 (0) (x1) (x0), L28_2 (0) (x1) (x0), []) := by kernel_rfl
theorem p28_1 (v5 : Int) (x1 : Int) (x0 : List (ByteArray × Int × Int × Unit)) : Am.runN tab ext28 false 35 [] 2000 [0] [] [0, 1, 5] [0] [true] (cutAt b28 2) (E28_2 v5 x1 x0) (L28_2 v5 x1 x0) = some (cutAt b28 2, E28_2 (v5 + 1) (x1 + 1 + 1 + 1) (List.set (List.set (List.set x0 (Int.toNat v5) (g46_0 x1, Prod.snd (List.getD x0 (Int.toNat v5) (ByteArray.empty, 0, 0, ())))) (Int.toNat v5) (Prod.fst (List.getD (List.set x0 (Int.toNat v5) (g46_0 x1, Prod.snd (List.getD x0 (Int.toNat v5) (ByteArray.empty, 0, 0, ())))) (Int.toNat v5) (ByteArray.empty, 0, 0, ())), x1 + 1, Prod.snd (Prod.snd (List.getD (List.set x0 (Int.toNat v5) (g46_0 x1, Prod.snd (List.getD x0 (Int.toNat v5) (ByteArray.empty, 0, 0, ())))) (Int.toNat v5) (ByteArray.empty, 0, 0, ()))))) (Int.toNat v5) (Prod.fst (List.getD (List.set (List.set x0 (Int.toNat v5) (g46_0 x1, Prod.snd (List.getD x0 (Int.toNat v5) (ByteArray.empty, 0, 0, ())))) (Int.toNat v5) (Prod.fst (List.getD (List.set x0 (Int.toNat v5) (g46_0 x1, Prod.snd (List.getD x0 (Int.toNat v5) (ByteArray.empty, 0, 0, ())))) (Int.toNat v5) (ByteArray.empty, 0, 0, ())), x1 + 1, Prod.snd (Prod.snd (List.getD (List.set x0 (Int.toNat v5) (g46_0 x1, Prod.snd (List.getD x0 (Int.toNat v5) (ByteArray.empty, 0, 0, ())))) (Int.toNat v5) (ByteArray.empty, 0, 0, ()))))) (Int.toNat v5) (ByteArray.empty, 0, 0, ())), Prod.fst (Prod.snd (List.getD (List.set (List.set x0 (Int.toNat v5) (g46_0 x1, Prod.snd (List.getD x0 (Int.toNat v5) (ByteArray.empty, 0, 0, ())))) (Int.toNat v5) (Prod.fst (List.getD (List.set x0 (Int.toNat v5) (g46_0 x1, Prod.snd (List.getD x0 (Int.toNat v5) (ByteArray.empty, 0, 0, ())))) (Int.toNat v5) (ByteArray.empty, 0, 0, ())), x1 + 1, Prod.snd (Prod.snd (List.getD (List.set x0 (Int.toNat v5) (g46_0 x1, Prod.snd (List.getD x0 (Int.toNat v5) (ByteArray.empty, 0, 0, ())))) (Int.toNat v5) (ByteArray.empty, 0, 0, ()))))) (Int.toNat v5) (ByteArray.empty, 0, 0, ()))), x1 + 1 + 1, Prod.snd (Prod.snd (Prod.snd (List.getD (List.set (List.set x0 (Int.toNat v5) (g46_0 x1, Prod.snd (List.getD x0 (Int.toNat v5) (ByteArray.empty, 0, 0, ())))) (Int.toNat v5) (Prod.fst (List.getD (List.set x0 (Int.toNat v5) (g46_0 x1, Prod.snd (List.getD x0 (Int.toNat v5) (ByteArray.empty, 0, 0, ())))) (Int.toNat v5) (ByteArray.empty, 0, 0, ())), x1 + 1, Prod.snd (Prod.snd (List.getD (List.set x0 (Int.toNat v5) (g46_0 x1, Prod.snd (List.getD x0 (Int.toNat v5) (ByteArray.empty, 0, 0, ())))) (Int.toNat v5) (ByteArray.empty, 0, 0, ()))))) (Int.toNat v5) (ByteArray.empty, 0, 0, ())))))), L28_2 (v5 + 1) (x1 + 1 + 1 + 1) (List.set (List.set (List.set x0 (Int.toNat v5) (g46_0 x1, Prod.snd (List.getD x0 (Int.toNat v5) (ByteArray.empty, 0, 0, ())))) (Int.toNat v5) (Prod.fst (List.getD (List.set x0 (Int.toNat v5) (g46_0 x1, Prod.snd (List.getD x0 (Int.toNat v5) (ByteArray.empty, 0, 0, ())))) (Int.toNat v5) (ByteArray.empty, 0, 0, ())), x1 + 1, Prod.snd (Prod.snd (List.getD (List.set x0 (Int.toNat v5) (g46_0 x1, Prod.snd (List.getD x0 (Int.toNat v5) (ByteArray.empty, 0, 0, ())))) (Int.toNat v5) (ByteArray.empty, 0, 0, ()))))) (Int.toNat v5) (Prod.fst (List.getD (List.set (List.set x0 (Int.toNat v5) (g46_0 x1, Prod.snd (List.getD x0 (Int.toNat v5) (ByteArray.empty, 0, 0, ())))) (Int.toNat v5) (Prod.fst (List.getD (List.set x0 (Int.toNat v5) (g46_0 x1, Prod.snd (List.getD x0 (Int.toNat v5) (ByteArray.empty, 0, 0, ())))) (Int.toNat v5) (ByteArray.empty, 0, 0, ())), x1 + 1, Prod.snd (Prod.snd (List.getD (List.set x0 (Int.toNat v5) (g46_0 x1, Prod.snd (List.getD x0 (Int.toNat v5) (ByteArray.empty, 0, 0, ())))) (Int.toNat v5) (ByteArray.empty, 0, 0, ()))))) (Int.toNat v5) (ByteArray.empty, 0, 0, ())), Prod.fst (Prod.snd (List.getD (List.set (List.set x0 (Int.toNat v5) (g46_0 x1, Prod.snd (List.getD x0 (Int.toNat v5) (ByteArray.empty, 0, 0, ())))) (Int.toNat v5) (Prod.fst (List.getD (List.set x0 (Int.toNat v5) (g46_0 x1, Prod.snd (List.getD x0 (Int.toNat v5) (ByteArray.empty, 0, 0, ())))) (Int.toNat v5) (ByteArray.empty, 0, 0, ())), x1 + 1, Prod.snd (Prod.snd (List.getD (List.set x0 (Int.toNat v5) (g46_0 x1, Prod.snd (List.getD x0 (Int.toNat v5) (ByteArray.empty, 0, 0, ())))) (Int.toNat v5) (ByteArray.empty, 0, 0, ()))))) (Int.toNat v5) (ByteArray.empty, 0, 0, ()))), x1 + 1 + 1, Prod.snd (Prod.snd (Prod.snd (List.getD (List.set (List.set x0 (Int.toNat v5) (g46_0 x1, Prod.snd (List.getD x0 (Int.toNat v5) (ByteArray.empty, 0, 0, ())))) (Int.toNat v5) (Prod.fst (List.getD (List.set x0 (Int.toNat v5) (g46_0 x1, Prod.snd (List.getD x0 (Int.toNat v5) (ByteArray.empty, 0, 0, ())))) (Int.toNat v5) (ByteArray.empty, 0, 0, ())), x1 + 1, Prod.snd (Prod.snd (List.getD (List.set x0 (Int.toNat v5) (g46_0 x1, Prod.snd (List.getD x0 (Int.toNat v5) (ByteArray.empty, 0, 0, ())))) (Int.toNat v5) (ByteArray.empty, 0, 0, ()))))) (Int.toNat v5) (ByteArray.empty, 0, 0, ())))))), [Decidable.decide (v5 < (↑(List.length x0) : Int)) = Bool.true, True, 0 ≤ v5, v5 < (↑(List.length x0) : Int), InR IntKind.i64 (x1 + 1), 0 ≤ v5, v5 < (↑(List.length (List.set x0 (Int.toNat v5) (g46_0 x1, Prod.snd (List.getD x0 (Int.toNat v5) (ByteArray.empty, 0, 0, ()))))) : Int), InR IntKind.i64 (x1 + 1 + 1), 0 ≤ v5, v5 < (↑(List.length (List.set (List.set x0 (Int.toNat v5) (g46_0 x1, Prod.snd (List.getD x0 (Int.toNat v5) (ByteArray.empty, 0, 0, ())))) (Int.toNat v5) (Prod.fst (List.getD (List.set x0 (Int.toNat v5) (g46_0 x1, Prod.snd (List.getD x0 (Int.toNat v5) (ByteArray.empty, 0, 0, ())))) (Int.toNat v5) (ByteArray.empty, 0, 0, ())), x1 + 1, Prod.snd (Prod.snd (List.getD (List.set x0 (Int.toNat v5) (g46_0 x1, Prod.snd (List.getD x0 (Int.toNat v5) (ByteArray.empty, 0, 0, ())))) (Int.toNat v5) (ByteArray.empty, 0, 0, ())))))) : Int), InR IntKind.i64 (x1 + 1 + 1 + 1), InR IntKind.i64 (v5 + 1)]) := by kernel_rfl
theorem p28_2 (v5 : Int) (x1 : Int) (x0 : List (ByteArray × Int × Int × Unit)) : runF tab ext28 false 35 [] 2000 [0] oks28 kds28 tys28 Try.f28.results [false] (cutAt b28 2) (E28_2 v5 x1 x0) (L28_2 v5 x1 x0) = some ([Dyn.mk (Ty.int IntKind.i64) x1], [Option.some (Lst.mk (Ty.cons Ty.str (Ty.cons (Ty.int IntKind.i64) (Ty.cons (Ty.int IntKind.i64) Ty.unit))) x0)], [Decidable.decide (v5 < (↑(List.length x0) : Int)) = Bool.false]) := by kernel_rfl
theorem snd28 : ∀ n, (∀ (x0 : List (ByteArray × Int × Int × Unit)) (x1 : Int) ds us, R28 n x0 x1 ds us → ∀ K q, AtV Try.prog 28 (PostR kds28 oks28 ds us [0] q K) 35 K q [0] [.code b28] (entE 0 0 sig28 (x0, x1, ())) (entL sig28 (x0, x1, ()))) ∧ (∀ (v5 : Int) (x1 : Int) (x0 : List (ByteArray × Int × Int × Unit)) ds us, R28_2 n v5 x1 x0 ds us → ∀ K q, AtV Try.prog 28 (PostR kds28 oks28 ds us [0] q K) 35 K q [0] (cutAt b28 2) (E28_2 v5 x1 x0) (L28_2 v5 x1 x0)) := by
  intro n
  induction n with
  | zero => exact ⟨fun _ _ _ _ h => by simp only [R28] at h, fun _ _ _ _ _ h => by simp only [R28_2] at h⟩
  | succ n ih =>
  obtain ⟨ih, ih2⟩ := ih
  refine ⟨?_, ?_⟩
  · intro x0 x1 ds us h K q
    rw [R28] at h
    exact AtV.runN tabOk ext28Ok mixed (p28_0 x0 x1) trivial (ih2 _ _ _ _ _ h K q)

  · intro v5 x1 x0 ds us h K q
    rw [R28_2] at h
    by_cases b0 : (Decidable.decide (v5 < (↑(List.length x0) : Int))) = true
    · rw [if_pos b0] at h
      obtain ⟨s0, s1, h⟩ := h
      obtain ⟨s2, h⟩ := h
      obtain ⟨s3, s4, h⟩ := h
      obtain ⟨s5, h⟩ := h
      obtain ⟨s6, s7, h⟩ := h
      obtain ⟨s8, h⟩ := h
      obtain ⟨s9, h⟩ := h
      exact AtV.runN tabOk ext28Ok mixed (p28_1 v5 x1 x0) ⟨b0, trivial, s0, s1, s2, s3, s4, s5, s6, s7, s8, s9, trivial⟩ (ih2 _ _ _ _ _ h K q)
    · rw [if_neg b0] at h
      replace b0 := Bool.eq_false_iff.2 b0
      obtain ⟨h, h'⟩ := h; subst h; subst h'
      exact AtV.fin Try.func28 tabOk ext28Ok mixed (p28_2 v5 x1 x0) ⟨b0, trivial⟩



def M28 (x1 : Int) (n : Nat) : List (ByteArray × Int × Int × Unit) := (List.range n).map fun (j : Nat) => (g46_0 (x1 + 3 * (j : Int)), (x1 + 3 * (j : Int) + 1), (x1 + 3 * (j : Int) + 1 + 1), ())

theorem M28_len (x1 : Int) (n : Nat) : (M28 x1 n).length = n := by simp [M28]

theorem M28_succ (x1 : Int) (n : Nat) : M28 x1 (n + 1) = M28 x1 n ++ [(g46_0 (x1 + 3 * (n : Int)), (x1 + 3 * (n : Int) + 1), (x1 + 3 * (n : Int) + 1 + 1), ())] := by
  simp [M28, List.range_succ]

theorem run28 (x0 : List (ByteArray × Int × Int × Unit)) (x1 : Int) (hm : x0.length ≤ maxLen) (h0 : 0 ≤ x1) (h1 : x1 + 3 * x0.length ≤ 9223372036854775807) : ∀ (k i : Nat), i + k = x0.length →
    R28_2 (k + 1) (i : Int) (x1 + 3 * (i : Int)) (M28 x1 i ++ x0.drop i) [⟨.int .i64, x1 + 3 * (x0.length : Int)⟩] [some ⟨(.cons .str (.cons (.int .i64) (.cons (.int .i64) .unit))), M28 x1 x0.length⟩] := by
  intro k
  induction k with
  | zero =>
    intro i hi
    have hl : (M28 x1 i ++ x0.drop i).length = x0.length := by simp [M28_len]; omega
    rw [R28_2, if_neg (by rw [hl]; simp; omega), drop_end x0 i (by omega), List.append_nil]
    have : i = x0.length := by omega
    subst this
    exact ⟨rfl, rfl⟩
  | succ k ih =>
    intro i hi
    have hl : (M28 x1 i ++ x0.drop i).length = x0.length := by simp [M28_len]; omega
    have hA := M28_len x1 i
    rw [R28_2, if_pos (by rw [hl]; simp; omega)]
    rw [drop_get x0 i (ByteArray.empty, (0 : Int), (0 : Int), ()) (by omega)] at hl ⊢
    simp only [Int.toNat_natCast, set_mid _ _ _ _ i hA, get_mid _ _ _ _ i hA]
    have hl' : ∀ y : (ByteArray × Int × Int × Unit), ((M28 x1 i ++ y :: x0.drop (i + 1)).length : Int) = x0.length := fun y => by rw [← hl]; simp
    simp only [hl']
    refine ⟨by omega, by omega, by rw [i64_iff]; omega, by omega, by omega, by rw [i64_iff]; omega, by omega, by omega, by rw [i64_iff]; omega, inR_up hm (by omega), ?_⟩
    have hx : x1 + 3 * (i : Int) + 1 + 1 + 1 = x1 + 3 * ((i + 1 : Nat) : Int) := by omega
    have := ih (i + 1) (by omega)
    rw [M28_succ, List.append_assoc] at this
    rw [hx]
    simpa using this

def P28 (x0 : List (ByteArray × Int × Int × Unit)) (x1 : Int) : Prop := 0 ≤ x1 ∧ x1 + 3 * x0.length ≤ 9223372036854775807
def g28_0 (x0 : List (ByteArray × Int × Int × Unit)) (x1 : Int) : Int := x1 + 3 * (x0.length : Int)
def u28_0 (x0 : List (ByteArray × Int × Int × Unit)) (x1 : Int) : List (ByteArray × Int × Int × Unit) := M28 x1 x0.length

theorem top28 (x0 : List (ByteArray × Int × Int × Unit)) (x1 : Int) (hm : x0.length ≤ maxLen) (h : P28 x0 x1) : R28 (x0.length + 1 + 1) x0 x1 [⟨.int .i64, g28_0 x0 x1⟩] [some ⟨(.cons .str (.cons (.int .i64) (.cons (.int .i64) .unit))), u28_0 x0 x1⟩] := by
  rw [R28]
  have := run28 x0 x1 hm h.1 h.2 x0.length 0 (by omega)
  simpa [M28, g28_0, u28_0] using this

def S28 : Am.Spec := { sig := sig28, pre := fun ⟨x0, x1, _⟩ => P28 x0 x1, upd := fun ⟨x0, x1, _⟩ => [some ⟨(.cons .str (.cons (.int .i64) (.cons (.int .i64) .unit))), u28_0 x0 x1⟩], res := fun ⟨x0, x1, _⟩ => [⟨.int .i64, g28_0 x0 x1⟩] }
theorem con28 : Contract Try.prog 28 S28 := contract_of Try.func28 hb28 (Nat.le_of_ble_eq_true (by kernel_rfl)) (fun ⟨x0, x1, _⟩ h hwf K q =>
  (snd28 _).1 x0 x1 _ _ (top28 x0 x1 hwf.1.1 h) K q)

end Go.Proofs.Ytleifkpekoinlaa

/- Function 36 (laws.heldHelperS): its runs between cut points. Written by a program of this repo (gen). -/
set_option linter.unusedVariables false
set_option linter.unusedSimpArgs false
set_option maxRecDepth 100000
namespace Go.Proofs.Ytleifkpekoinlaa
open Go Go.Am Go.Proofs
def ext36 : Ext := [(46, S46)]
theorem call36_46 : Callable Try.prog 46 := ⟨Try.f46, Try.func46, by kernel_rfl, by kernel_rfl⟩
theorem ext36Ok : ExtOk Try.prog ext36 := ⟨⟨call36_46, con46⟩, trivial⟩
/-! Function 36. -/
noncomputable def b36 : Code := bodyOf Try.f36
theorem hb36 : Try.f36.body = some b36 := by kernel_rfl
def sig36 : List AT := [AT.v (Ty.sl (Ty.cons Ty.str (Ty.cons (Ty.int IntKind.i64) (Ty.cons (Ty.int IntKind.i64) Ty.unit)))), AT.v (Ty.int IntKind.i64)]
def tys36 : List Ty := [Ty.int IntKind.i64]
def kds36 : List RK := []
def oks36 : List AT := owns sig36
def E36_2 (v5 : Int) (x0 : List (ByteArray × Int × Int × Unit)) (x1 : Int) : Env := [(0, PV.a (Atom.sl (Ty.cons Ty.str (Ty.cons (Ty.int IntKind.i64) (Ty.cons (Ty.int IntKind.i64) Ty.unit))) x0)), (1, PV.a (Atom.val (Value.int IntKind.i64 x1))), (5, PV.a (Atom.val (Value.int IntKind.i64 v5)))]
def L36_2 (v5 : Int) (x0 : List (ByteArray × Int × Int × Unit)) (x1 : Int) : Heap := []
mutual
def R36 : Nat → List (ByteArray × Int × Int × Unit) → Int → List Dyn → Prop
  | 0, _, _, _ => False
  | n + 1, x0, x1, ds => (R36_2 n (0) (x0) (x1) ds)
def R36_2 : Nat → Int → List (ByteArray × Int × Int × Unit) → Int → List Dyn → Prop
  | 0, _, _, _, _ => False
  | n + 1, v5, x0, x1, ds => (if (Decidable.decide (v5 < (↑(List.length x0) : Int))) = true then ((0 ≤ v5) ∧ (v5 < (↑(List.length x0) : Int)) ∧ (if (!ByteArray.toList (Prod.fst (List.getD x0 (Int.toNat v5) (ByteArray.empty, 0, 0, ()))) == ByteArray.toList (g46_0 x1)) = true then (ds = [Dyn.mk (Ty.int IntKind.i64) (-1)]) else ((InR IntKind.i64 (x1 + 1)) ∧ ((0 ≤ v5) ∧ (v5 < (↑(List.length x0) : Int)) ∧ (if (Prod.fst (Prod.snd (List.getD x0 (Int.toNat v5) (ByteArray.empty, 0, 0, ()))) != x1 + 1) = true then (ds = [Dyn.mk (Ty.int IntKind.i64) (-1)]) else ((InR IntKind.i64 (x1 + 1 + 1)) ∧ ((0 ≤ v5) ∧ (v5 < (↑(List.length x0) : Int)) ∧ (if (Prod.fst (Prod.snd (Prod.snd (List.getD x0 (Int.toNat v5) (ByteArray.empty, 0, 0, ())))) != x1 + 1 + 1) = true then (ds = [Dyn.mk (Ty.int IntKind.i64) (-1)]) else ((InR IntKind.i64 (x1 + 1 + 1 + 1)) ∧ ((InR IntKind.i64 (v5 + 1)) ∧ (R36_2 n (v5 + 1) (x0) (x1 + 1 + 1 + 1) ds))))))))))) else (ds = [Dyn.mk (Ty.int IntKind.i64) x1]))
end
theorem p36_0 (x0 : List (ByteArray × Int × Int × Unit)) (x1 : Int) : Am.runN tab ext36 false 41 [] 2000 [] [] [0, 1, 5] [] [] [.code b36] (entE 0 0 sig36 (x0, x1, ())) (entL sig36 (x0, x1, ())) = some (cutAt b36 2, E36_2 (0) (x0) (x1), L36_2 (0) (x0) (x1), []) := by kernel_rfl
theorem p36_1 (v5 : Int) (x0 : List (ByteArray × Int × Int × Unit)) (x1 : Int) : runF tab ext36 false 41 [] 2000 [] oks36 kds36 tys36 Try.f36.results [true, true] (cutAt b36 2) (E36_2 v5 x0 x1) (L36_2 v5 x0 x1) = some ([Dyn.mk (Ty.int IntKind.i64) (-1)], [], [Decidable.decide (v5 < (↑(List.length x0) : Int)) = Bool.true, 0 ≤ v5, v5 < (↑(List.length x0) : Int), True, (!ByteArray.toList (Prod.fst (List.getD x0 (Int.toNat v5) (ByteArray.empty, 0, 0, ()))) == ByteArray.toList (g46_0 x1)) = Bool.true]) := by kernel_rfl
theorem p36_2 (v5 : Int) (x0 : List (ByteArray × Int × Int × Unit)) (x1 : Int) : runF tab ext36 false 41 [] 2000 [] oks36 kds36 tys36 Try.f36.results [true, false, true] (cutAt b36 2) (E36_2 v5 x0 x1) (L36_2 v5 x0 x1) = some ([Dyn.mk (Ty.int IntKind.i64) (-1)], [], [Decidable.decide (v5 < (↑(List.length x0) : Int)) = Bool.true, 0 ≤ v5, v5 < (↑(List.length x0) : Int), True, (!ByteArray.toList (Prod.fst (List.getD x0 (Int.toNat v5) (ByteArray.empty, 0, 0, ()))) == ByteArray.toList (g46_0 x1)) = Bool.false, InR IntKind.i64 (x1 + 1), 0 ≤ v5, v5 < (↑(List.length x0) : Int), (Prod.fst (Prod.snd (List.getD x0 (Int.toNat v5) (ByteArray.empty, 0, 0, ()))) != x1 + 1) = Bool.true]) := by kernel_rfl
theorem p36_3 (v5 : Int) (x0 : List (ByteArray × Int × Int × Unit)) (x1 : Int) : runF tab ext36 false 41 [] 2000 [] oks36 kds36 tys36 Try.f36.results [true, false, false, true] (cutAt b36 2) (E36_2 v5 x0 x1) (L36_2 v5 x0 x1) = some ([Dyn.mk (Ty.int IntKind.i64) (-1)], [], [Decidable.decide (v5 < (↑(List.length x0) : Int)) = Bool.true, 0 ≤ v5, v5 < (↑(List.length x0) : Int), True, (!ByteArray.toList (Prod.fst (List.getD x0 (Int.toNat v5) (ByteArray.empty, 0, 0, ()))) == ByteArray.toList (g46_0 x1)) = Bool.false, InR IntKind.i64 (x1 + 1), 0 ≤ v5, v5 < (↑(List.length x0) : Int), (Prod.fst (Prod.snd (List.getD x0 (Int.toNat v5) (ByteArray.empty, 0, 0, ()))) != x1 + 1) = Bool.false, InR IntKind.i64 (x1 + 1 + 1), 0 ≤ v5, v5 < (↑(List.length x0) : Int), (Prod.fst (Prod.snd (Prod.snd (List.getD x0 (Int.toNat v5) (ByteArray.empty, 0, 0, ())))) != x1 + 1 + 1) = Bool.true]) := by kernel_rfl
theorem p36_4 (v5 : Int) (x0 : List (ByteArray × Int × Int × Unit)) (x1 : Int) : Am.runN tab ext36 false 41 [] 2000 [] [] [0, 1, 5] [] [true, false, false, false] (cutAt b36 2) (E36_2 v5 x0 x1) (L36_2 v5 x0 x1) = some (cutAt b36 2, E36_2 (v5 + 1) (x0) (x1 + 1 + 1 + 1), L36_2 (v5 + 1) (x0) (x1 + 1 + 1 + 1), [Decidable.decide (v5 < (↑(List.length x0) : Int)) = Bool.true, 0 ≤ v5, v5 < (↑(List.length x0) : Int), True, (!ByteArray.toList (Prod.fst (List.getD x0 (Int.toNat v5) (ByteArray.empty, 0, 0, ()))) == ByteArray.toList (g46_0 x1)) = Bool.false, InR IntKind.i64 (x1 + 1), 0 ≤ v5, v5 < (↑(List.length x0) : Int), (Prod.fst (Prod.snd (List.getD x0 (Int.toNat v5) (ByteArray.empty, 0, 0, ()))) != x1 + 1) = Bool.false, InR IntKind.i64 (x1 + 1 + 1), 0 ≤ v5, v5 < (↑(List.length x0) : Int), (Prod.fst (Prod.snd (Prod.snd (List.getD x0 (Int.toNat v5) (ByteArray.empty, 0, 0, ())))) != x1 + 1 + 1) = Bool.false, InR IntKind.i64 (x1 + 1 + 1 + 1), InR IntKind.i64 (v5 + 1)]) := by kernel_rfl
theorem p36_5 (v5 : Int) (x0 : List (ByteArray × Int × Int × Unit)) (x1 : Int) : runF tab ext36 false 41 [] 2000 [] oks36 kds36 tys36 Try.f36.results [false] (cutAt b36 2) (E36_2 v5 x0 x1) (L36_2 v5 x0 x1) = some ([Dyn.mk (Ty.int IntKind.i64) x1], [], [Decidable.decide (v5 < (↑(List.length x0) : Int)) = Bool.false]) := by kernel_rfl
theorem snd36 : ∀ n, (∀ (x0 : List (ByteArray × Int × Int × Unit)) (x1 : Int) ds, R36 n x0 x1 ds → ∀ K q, AtV Try.prog 36 (PostR kds36 oks36 ds [] [] q K) 41 K q [] [.code b36] (entE 0 0 sig36 (x0, x1, ())) (entL sig36 (x0, x1, ()))) ∧ (∀ (v5 : Int) (x0 : List (ByteArray × Int × Int × Unit)) (x1 : Int) ds, R36_2 n v5 x0 x1 ds → ∀ K q, AtV Try.prog 36 (PostR kds36 oks36 ds [] [] q K) 41 K q [] (cutAt b36 2) (E36_2 v5 x0 x1) (L36_2 v5 x0 x1)) := by
  intro n
  induction n with
  | zero => exact ⟨fun _ _ _ h => by simp only [R36] at h, fun _ _ _ _ h => by simp only [R36_2] at h⟩
  | succ n ih =>
  obtain ⟨ih, ih2⟩ := ih
  refine ⟨?_, ?_⟩
  · intro x0 x1 ds h K q
    rw [R36] at h
    exact AtV.runN tabOk ext36Ok mixed (p36_0 x0 x1) trivial (ih2 _ _ _ _ h K q)

  · intro v5 x0 x1 ds h K q
    rw [R36_2] at h
    by_cases b0 : (Decidable.decide (v5 < (↑(List.length x0) : Int))) = true
    · rw [if_pos b0] at h
      obtain ⟨s0, s1, h⟩ := h
      by_cases b1 : (!ByteArray.toList (Prod.fst (List.getD x0 (Int.toNat v5) (ByteArray.empty, 0, 0, ()))) == ByteArray.toList (g46_0 x1)) = true
      · rw [if_pos b1] at h
        subst h
        exact AtV.fin Try.func36 tabOk ext36Ok mixed (p36_1 v5 x0 x1) ⟨b0, s0, s1, trivial, b1, trivial⟩
      · rw [if_neg b1] at h
        replace b1 := Bool.eq_false_iff.2 b1
        obtain ⟨s2, h⟩ := h
        obtain ⟨s3, s4, h⟩ := h
        by_cases b2 : (Prod.fst (Prod.snd (List.getD x0 (Int.toNat v5) (ByteArray.empty, 0, 0, ()))) != x1 + 1) = true
        · rw [if_pos b2] at h
          subst h
          exact AtV.fin Try.func36 tabOk ext36Ok mixed (p36_2 v5 x0 x1) ⟨b0, s0, s1, trivial, b1, s2, s3, s4, b2, trivial⟩
        · rw [if_neg b2] at h
          replace b2 := Bool.eq_false_iff.2 b2
          obtain ⟨s5, h⟩ := h
          obtain ⟨s6, s7, h⟩ := h
          by_cases b3 : (Prod.fst (Prod.snd (Prod.snd (List.getD x0 (Int.toNat v5) (ByteArray.empty, 0, 0, ())))) != x1 + 1 + 1) = true
          · rw [if_pos b3] at h
            subst h
            exact AtV.fin Try.func36 tabOk ext36Ok mixed (p36_3 v5 x0 x1) ⟨b0, s0, s1, trivial, b1, s2, s3, s4, b2, s5, s6, s7, b3, trivial⟩
          · rw [if_neg b3] at h
            replace b3 := Bool.eq_false_iff.2 b3
            obtain ⟨s8, h⟩ := h
            obtain ⟨s9, h⟩ := h
            exact AtV.runN tabOk ext36Ok mixed (p36_4 v5 x0 x1) ⟨b0, s0, s1, trivial, b1, s2, s3, s4, b2, s5, s6, s7, b3, s8, s9, trivial⟩ (ih2 _ _ _ _ h K q)
    · rw [if_neg b0] at h
      replace b0 := Bool.eq_false_iff.2 b0
      subst h
      exact AtV.fin Try.func36 tabOk ext36Ok mixed (p36_5 v5 x0 x1) ⟨b0, trivial⟩



theorem run36 (x0 : List (ByteArray × Int × Int × Unit)) (x1 : Int) (hm : x0.length ≤ maxLen) (h0 : 0 ≤ x1) (h1 : x1 + 3 * x0.length ≤ 9223372036854775807) (he : ∀ i : Nat, i < x0.length → x0.getD i (ByteArray.empty, (0 : Int), (0 : Int), ()) = (g46_0 (x1 + 3 * (i : Int)), (x1 + 3 * (i : Int) + 1), (x1 + 3 * (i : Int) + 1 + 1), ())) : ∀ (k i : Nat), i + k = x0.length →
    R36_2 (k + 1) (i : Int) x0 (x1 + 3 * (i : Int)) [⟨.int .i64, x1 + 3 * (x0.length : Int)⟩] := by
  intro k
  induction k with
  | zero =>
    intro i hi
    rw [R36_2, if_neg (by simp; omega)]
    have : i = x0.length := by omega
    subst this
    rfl
  | succ k ih =>
    intro i hi
    rw [R36_2, if_pos (by simp; omega)]
    simp only [Int.toNat_natCast, he i (by omega)]
    have hb : ∀ y : ByteArray, (!(ByteArray.toList y == ByteArray.toList y)) = true → False := fun y h => by rw [(bytes_eq y y).2 rfl] at h; cases h
    refine ⟨by omega, by omega, ?_⟩
    rw [if_neg (hb _)]
    refine ⟨by rw [i64_iff]; omega, by omega, by omega, ?_⟩
    rw [if_neg (by simp only [bne_self_eq_false, Bool.false_eq_true, not_false_eq_true])]
    refine ⟨by rw [i64_iff]; omega, by omega, by omega, ?_⟩
    rw [if_neg (by simp only [bne_self_eq_false, Bool.false_eq_true, not_false_eq_true])]
    refine ⟨by rw [i64_iff]; omega, inR_up hm (by omega), ?_⟩
    have hx : x1 + 3 * (i : Int) + 1 + 1 + 1 = x1 + 3 * ((i + 1 : Nat) : Int) := by omega
    rw [hx]
    exact ih (i + 1) (by omega)

def P36 (x0 : List (ByteArray × Int × Int × Unit)) (x1 : Int) : Prop := (0 ≤ x1 ∧ x1 + 3 * x0.length ≤ 9223372036854775807) ∧ ∀ i : Nat, i < x0.length → x0.getD i (ByteArray.empty, (0 : Int), (0 : Int), ()) = (g46_0 (x1 + 3 * (i : Int)), (x1 + 3 * (i : Int) + 1), (x1 + 3 * (i : Int) + 1 + 1), ())
def g36_0 (x0 : List (ByteArray × Int × Int × Unit)) (x1 : Int) : Int := x1 + 3 * (x0.length : Int)

theorem top36 (x0 : List (ByteArray × Int × Int × Unit)) (x1 : Int) (hm : x0.length ≤ maxLen) (h : P36 x0 x1) : R36 (x0.length + 1 + 1) x0 x1 [⟨.int .i64, g36_0 x0 x1⟩] := by
  rw [R36]
  have := run36 x0 x1 hm h.1.1 h.1.2 h.2 x0.length 0 (by omega)
  simpa [g36_0] using this

def S36 : Am.Spec := { sig := sig36, pre := fun ⟨x0, x1, _⟩ => P36 x0 x1, res := fun ⟨x0, x1, _⟩ => [⟨.int .i64, g36_0 x0 x1⟩] }
theorem con36 : Contract Try.prog 36 S36 := contract_of Try.func36 hb36 (Nat.le_of_ble_eq_true (by kernel_rfl)) (fun ⟨x0, x1, _⟩ h hwf K q =>
  (snd36 _).1 x0 x1 _ (top36 x0 x1 hwf.1.1 h) K q)

end Go.Proofs.Ytleifkpekoinlaa
