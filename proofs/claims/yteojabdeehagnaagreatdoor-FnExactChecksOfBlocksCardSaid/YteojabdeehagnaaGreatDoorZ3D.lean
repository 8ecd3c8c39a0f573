/- Several texts in one: the functions that this law reaches, and their laws. -/
import Derived.Test.YteojabdeehagnaaGreatDoorZ3A
import Derived.Test.YteojabdeehagnaaGreatDoorZ3B
import Derived.Test.YteojabdeehagnaaGreatDoorZ3C

/- Function 32 (spec.l01Number): its runs between cut points. Written by a program of this repo (gen). -/
set_option linter.unusedVariables false
set_option linter.unusedSimpArgs false
set_option maxRecDepth 100000
namespace Go.Proofs.YteojabdeehagnaaGreatDoor
open Go Go.Am Go.Proofs
def ext32 : Ext := [(45, S45)]
theorem call32_45 : Callable Tryz.prog 45 := ⟨Tryz.f45, Tryz.func45, by kernel_rfl, by kernel_rfl⟩
theorem ext32Ok : ExtOk Tryz.prog ext32 := ⟨⟨call32_45, con45⟩, trivial⟩
/-! Function 32. -/
noncomputable def b32 : Code := bodyOf Tryz.f32
theorem hb32 : Tryz.f32.body = some b32 := by kernel_rfl
def sig32 : List AT := [AT.v (Ty.str)]
def tys32 : List Ty := [Ty.int IntKind.i64, Ty.bool]
def E32_8 (v4 : Int) (v5 : Int) (v6 : Int) (x0 : ByteArray) : Env := [(0, PV.a (Atom.val (Value.string x0))), (4, PV.a (Atom.val (Value.int IntKind.i64 v4))), (5, PV.a (Atom.val (Value.int IntKind.i64 v5))), (6, PV.a (Atom.val (Value.int IntKind.i64 v6)))]
def L32_8 (v4 : Int) (v5 : Int) (v6 : Int) (x0 : ByteArray) : Heap := []
mutual
def R32 : Nat → ByteArray → List Dyn → Prop
  | 0, _, _ => False
  | n + 1, x0, ds => (if (Decidable.decide ((↑(ByteArray.size x0) : Int) > 0)) = true then ((0 < (↑(ByteArray.size x0) : Int)) ∧ (if ((↑(UInt8.toNat (List.getD (Array.toList (ByteArray.data x0)) 0 0)) : Int) == 45) = true then (if ((↑(ByteArray.size x0) : Int) == 1) = true then (ds = [Dyn.mk (Ty.int IntKind.i64) 0, Dyn.mk Ty.bool Bool.false]) else ((InR IntKind.i64 ((↑(ByteArray.size x0) : Int) - 1)) ∧ (if (Decidable.decide ((↑(ByteArray.size x0) : Int) - 1 > 18)) = true then (ds = [Dyn.mk (Ty.int IntKind.i64) 0, Dyn.mk Ty.bool Bool.false]) else ((1 < (↑(ByteArray.size x0) : Int)) ∧ (if ((↑(UInt8.toNat (List.getD (Array.toList (ByteArray.data x0)) 1 0)) : Int) == 48) = true then (if (Decidable.decide ((↑(ByteArray.size x0) : Int) > 1)) = true then (ds = [Dyn.mk (Ty.int IntKind.i64) 0, Dyn.mk Ty.bool Bool.false]) else (R32_8 n (1) (0) (1) (x0) ds)) else (R32_8 n (1) (0) (1) (x0) ds)))))) else (if ((↑(ByteArray.size x0) : Int) == 0) = true then (ds = [Dyn.mk (Ty.int IntKind.i64) 0, Dyn.mk Ty.bool Bool.false]) else ((InR IntKind.i64 ((↑(ByteArray.size x0) : Int) - 0)) ∧ (if (Decidable.decide ((↑(ByteArray.size x0) : Int) - 0 > 18)) = true then (ds = [Dyn.mk (Ty.int IntKind.i64) 0, Dyn.mk Ty.bool Bool.false]) else ((0 < (↑(ByteArray.size x0) : Int)) ∧ (if ((↑(UInt8.toNat (List.getD (Array.toList (ByteArray.data x0)) 0 0)) : Int) == 48) = true then (if (Decidable.decide ((↑(ByteArray.size x0) : Int) > 1)) = true then (ds = [Dyn.mk (Ty.int IntKind.i64) 0, Dyn.mk Ty.bool Bool.false]) else (R32_8 n (0) (0) (0) (x0) ds)) else (R32_8 n (0) (0) (0) (x0) ds)))))))) else (if ((↑(ByteArray.size x0) : Int) == 0) = true then (ds = [Dyn.mk (Ty.int IntKind.i64) 0, Dyn.mk Ty.bool Bool.false]) else ((InR IntKind.i64 ((↑(ByteArray.size x0) : Int) - 0)) ∧ (if (Decidable.decide ((↑(ByteArray.size x0) : Int) - 0 > 18)) = true then (ds = [Dyn.mk (Ty.int IntKind.i64) 0, Dyn.mk Ty.bool Bool.false]) else ((0 < (↑(ByteArray.size x0) : Int)) ∧ (if ((↑(UInt8.toNat (List.getD (Array.toList (ByteArray.data x0)) 0 0)) : Int) == 48) = true then (if (Decidable.decide ((↑(ByteArray.size x0) : Int) > 1)) = true then (ds = [Dyn.mk (Ty.int IntKind.i64) 0, Dyn.mk Ty.bool Bool.false]) else (R32_8 n (0) (0) (0) (x0) ds)) else (R32_8 n (0) (0) (0) (x0) ds)))))))
def R32_8 : Nat → Int → Int → Int → ByteArray → List Dyn → Prop
  | 0, _, _, _, _, _ => False
  | n + 1, v4, v5, v6, x0, ds => (if (Decidable.decide (v6 < (↑(ByteArray.size x0) : Int))) = true then ((0 ≤ v6) ∧ (v6 < (↑(ByteArray.size x0) : Int)) ∧ (if (!g45_0 (↑(UInt8.toNat (List.getD (Array.toList (ByteArray.data x0)) (Int.toNat v6) 0)) : Int)) = true then (ds = [Dyn.mk (Ty.int IntKind.i64) 0, Dyn.mk Ty.bool Bool.false]) else ((InR IntKind.i64 (10 * v5)) ∧ ((0 ≤ v6) ∧ (v6 < (↑(ByteArray.size x0) : Int)) ∧ ((InR IntKind.u8 ((↑(UInt8.toNat (List.getD (Array.toList (ByteArray.data x0)) (Int.toNat v6) 0)) : Int) - 48)) ∧ ((InR IntKind.i64 ((↑(UInt8.toNat (List.getD (Array.toList (ByteArray.data x0)) (Int.toNat v6) 0)) : Int) - 48)) ∧ ((InR IntKind.i64 (10 * v5 + ((↑(UInt8.toNat (List.getD (Array.toList (ByteArray.data x0)) (Int.toNat v6) 0)) : Int) - 48))) ∧ ((InR IntKind.i64 (v6 + 1)) ∧ (R32_8 n (v4) (10 * v5 + ((↑(UInt8.toNat (List.getD (Array.toList (ByteArray.data x0)) (Int.toNat v6) 0)) : Int) - 48)) (v6 + 1) (x0) ds))))))))) else (if (v4 == 1) = true then ((InR IntKind.i64 (0 - v5)) ∧ (ds = [Dyn.mk (Ty.int IntKind.i64) (0 - v5), Dyn.mk Ty.bool Bool.true])) else (ds = [Dyn.mk (Ty.int IntKind.i64) v5, Dyn.mk Ty.bool Bool.true])))
end
theorem p32_0 (x0 : ByteArray) : runF tab ext32 false 62 [] 2000 [] tys32 Tryz.f32.results [true, true, true, true, true] [.code b32] (entE 0 0 sig32 (x0, ())) (entL sig32 (x0, ())) = some ([Dyn.mk (Ty.int IntKind.i64) 0, Dyn.mk Ty.bool Bool.false], [], [Decidable.decide ((↑(ByteArray.size x0) : Int) > 0) = Bool.true, (0 : Int) ≤ (0 : Int), 0 < (↑(ByteArray.size x0) : Int), ((↑(UInt8.toNat (List.getD (Array.toList (ByteArray.data x0)) 0 0)) : Int) == 45) = Bool.true, ((↑(ByteArray.size x0) : Int) == 1) = Bool.true, Bool.true = Bool.true, Bool.true = Bool.true]) := by kernel_rfl
theorem p32_1 (x0 : ByteArray) : runF tab ext32 false 62 [] 2000 [] tys32 Tryz.f32.results [true, true, false, true, true] [.code b32] (entE 0 0 sig32 (x0, ())) (entL sig32 (x0, ())) = some ([Dyn.mk (Ty.int IntKind.i64) 0, Dyn.mk Ty.bool Bool.false], [], [Decidable.decide ((↑(ByteArray.size x0) : Int) > 0) = Bool.true, (0 : Int) ≤ (0 : Int), 0 < (↑(ByteArray.size x0) : Int), ((↑(UInt8.toNat (List.getD (Array.toList (ByteArray.data x0)) 0 0)) : Int) == 45) = Bool.true, ((↑(ByteArray.size x0) : Int) == 1) = Bool.false, InR IntKind.i64 ((↑(ByteArray.size x0) : Int) - 1), Decidable.decide ((↑(ByteArray.size x0) : Int) - 1 > 18) = Bool.true, Bool.true = Bool.true]) := by kernel_rfl
theorem p32_2 (x0 : ByteArray) : runF tab ext32 false 62 [] 2000 [] tys32 Tryz.f32.results [true, true, false, false, true, true] [.code b32] (entE 0 0 sig32 (x0, ())) (entL sig32 (x0, ())) = some ([Dyn.mk (Ty.int IntKind.i64) 0, Dyn.mk Ty.bool Bool.false], [], [Decidable.decide ((↑(ByteArray.size x0) : Int) > 0) = Bool.true, (0 : Int) ≤ (0 : Int), 0 < (↑(ByteArray.size x0) : Int), ((↑(UInt8.toNat (List.getD (Array.toList (ByteArray.data x0)) 0 0)) : Int) == 45) = Bool.true, ((↑(ByteArray.size x0) : Int) == 1) = Bool.false, InR IntKind.i64 ((↑(ByteArray.size x0) : Int) - 1), Decidable.decide ((↑(ByteArray.size x0) : Int) - 1 > 18) = Bool.false, (0 : Int) ≤ (1 : Int), 1 < (↑(ByteArray.size x0) : Int), ((↑(UInt8.toNat (List.getD (Array.toList (ByteArray.data x0)) 1 0)) : Int) == 48) = Bool.true, Decidable.decide ((↑(ByteArray.size x0) : Int) > 1) = Bool.true]) := by kernel_rfl
theorem p32_3 (x0 : ByteArray) : Am.runN tab ext32 false 62 [] 2000 [] [] [0, 4, 5, 6] [] [true, true, false, false, true, false] [.code b32] (entE 0 0 sig32 (x0, ())) (entL sig32 (x0, ())) = some (cutAt b32 8, E32_8 (1) (0) (1) (x0), L32_8 (1) (0) (1) (x0), [Decidable.decide ((↑(ByteArray.size x0) : Int) > 0) = Bool.true, (0 : Int) ≤ (0 : Int), 0 < (↑(ByteArray.size x0) : Int), ((↑(UInt8.toNat (List.getD (Array.toList (ByteArray.data x0)) 0 0)) : Int) == 45) = Bool.true, ((↑(ByteArray.size x0) : Int) == 1) = Bool.false, InR IntKind.i64 ((↑(ByteArray.size x0) : Int) - 1), Decidable.decide ((↑(ByteArray.size x0) : Int) - 1 > 18) = Bool.false, (0 : Int) ≤ (1 : Int), 1 < (↑(ByteArray.size x0) : Int), ((↑(UInt8.toNat (List.getD (Array.toList (ByteArray.data x0)) 1 0)) : Int) == 48) = Bool.true, Decidable.decide ((↑(ByteArray.size x0) : Int) > 1) = Bool.false]) := by kernel_rfl
theorem p32_4 (x0 : ByteArray) : Am.runN tab ext32 false 62 [] 2000 [] [] [0, 4, 5, 6] [] [true, true, false, false, false, false] [.code b32] (entE 0 0 sig32 (x0, ())) (entL sig32 (x0, ())) = some (cutAt b32 8, E32_8 (1) (0) (1) (x0), L32_8 (1) (0) (1) (x0), [Decidable.decide ((↑(ByteArray.size x0) : Int) > 0) = Bool.true, (0 : Int) ≤ (0 : Int), 0 < (↑(ByteArray.size x0) : Int), ((↑(UInt8.toNat (List.getD (Array.toList (ByteArray.data x0)) 0 0)) : Int) == 45) = Bool.true, ((↑(ByteArray.size x0) : Int) == 1) = Bool.false, InR IntKind.i64 ((↑(ByteArray.size x0) : Int) - 1), Decidable.decide ((↑(ByteArray.size x0) : Int) - 1 > 18) = Bool.false, (0 : Int) ≤ (1 : Int), 1 < (↑(ByteArray.size x0) : Int), ((↑(UInt8.toNat (List.getD (Array.toList (ByteArray.data x0)) 1 0)) : Int) == 48) = Bool.false, Bool.false = Bool.false]) := by kernel_rfl
theorem p32_5 (x0 : ByteArray) : runF tab ext32 false 62 [] 2000 [] tys32 Tryz.f32.results [true, false, true, true, true] [.code b32] (entE 0 0 sig32 (x0, ())) (entL sig32 (x0, ())) = some ([Dyn.mk (Ty.int IntKind.i64) 0, Dyn.mk Ty.bool Bool.false], [], [Decidable.decide ((↑(ByteArray.size x0) : Int) > 0) = Bool.true, (0 : Int) ≤ (0 : Int), 0 < (↑(ByteArray.size x0) : Int), ((↑(UInt8.toNat (List.getD (Array.toList (ByteArray.data x0)) 0 0)) : Int) == 45) = Bool.false, ((↑(ByteArray.size x0) : Int) == 0) = Bool.true, Bool.true = Bool.true, Bool.true = Bool.true]) := by kernel_rfl
theorem p32_6 (x0 : ByteArray) : runF tab ext32 false 62 [] 2000 [] tys32 Tryz.f32.results [true, false, false, true, true] [.code b32] (entE 0 0 sig32 (x0, ())) (entL sig32 (x0, ())) = some ([Dyn.mk (Ty.int IntKind.i64) 0, Dyn.mk Ty.bool Bool.false], [], [Decidable.decide ((↑(ByteArray.size x0) : Int) > 0) = Bool.true, (0 : Int) ≤ (0 : Int), 0 < (↑(ByteArray.size x0) : Int), ((↑(UInt8.toNat (List.getD (Array.toList (ByteArray.data x0)) 0 0)) : Int) == 45) = Bool.false, ((↑(ByteArray.size x0) : Int) == 0) = Bool.false, InR IntKind.i64 ((↑(ByteArray.size x0) : Int) - 0), Decidable.decide ((↑(ByteArray.size x0) : Int) - 0 > 18) = Bool.true, Bool.true = Bool.true]) := by kernel_rfl
theorem p32_7 (x0 : ByteArray) : runF tab ext32 false 62 [] 2000 [] tys32 Tryz.f32.results [true, false, false, false, true, true] [.code b32] (entE 0 0 sig32 (x0, ())) (entL sig32 (x0, ())) = some ([Dyn.mk (Ty.int IntKind.i64) 0, Dyn.mk Ty.bool Bool.false], [], [Decidable.decide ((↑(ByteArray.size x0) : Int) > 0) = Bool.true, (0 : Int) ≤ (0 : Int), 0 < (↑(ByteArray.size x0) : Int), ((↑(UInt8.toNat (List.getD (Array.toList (ByteArray.data x0)) 0 0)) : Int) == 45) = Bool.false, ((↑(ByteArray.size x0) : Int) == 0) = Bool.false, InR IntKind.i64 ((↑(ByteArray.size x0) : Int) - 0), Decidable.decide ((↑(ByteArray.size x0) : Int) - 0 > 18) = Bool.false, (0 : Int) ≤ (0 : Int), 0 < (↑(ByteArray.size x0) : Int), ((↑(UInt8.toNat (List.getD (Array.toList (ByteArray.data x0)) 0 0)) : Int) == 48) = Bool.true, Decidable.decide ((↑(ByteArray.size x0) : Int) > 1) = Bool.true]) := by kernel_rfl
theorem p32_8 (x0 : ByteArray) : Am.runN tab ext32 false 62 [] 2000 [] [] [0, 4, 5, 6] [] [true, false, false, false, true, false] [.code b32] (entE 0 0 sig32 (x0, ())) (entL sig32 (x0, ())) = some (cutAt b32 8, E32_8 (0) (0) (0) (x0), L32_8 (0) (0) (0) (x0), [Decidable.decide ((↑(ByteArray.size x0) : Int) > 0) = Bool.true, (0 : Int) ≤ (0 : Int), 0 < (↑(ByteArray.size x0) : Int), ((↑(UInt8.toNat (List.getD (Array.toList (ByteArray.data x0)) 0 0)) : Int) == 45) = Bool.false, ((↑(ByteArray.size x0) : Int) == 0) = Bool.false, InR IntKind.i64 ((↑(ByteArray.size x0) : Int) - 0), Decidable.decide ((↑(ByteArray.size x0) : Int) - 0 > 18) = Bool.false, (0 : Int) ≤ (0 : Int), 0 < (↑(ByteArray.size x0) : Int), ((↑(UInt8.toNat (List.getD (Array.toList (ByteArray.data x0)) 0 0)) : Int) == 48) = Bool.true, Decidable.decide ((↑(ByteArray.size x0) : Int) > 1) = Bool.false]) := by kernel_rfl
theorem p32_9 (x0 : ByteArray) : Am.runN tab ext32 false 62 [] 2000 [] [] [0, 4, 5, 6] [] [true, false, false, false, false, false] [.code b32] (entE 0 0 sig32 (x0, ())) (entL sig32 (x0, ())) = some (cutAt b32 8, E32_8 (0) (0) (0) (x0), L32_8 (0) (0) (0) (x0), [Decidable.decide ((↑(ByteArray.size x0) : Int) > 0) = Bool.true, (0 : Int) ≤ (0 : Int), 0 < (↑(ByteArray.size x0) : Int), ((↑(UInt8.toNat (List.getD (Array.toList (ByteArray.data x0)) 0 0)) : Int) == 45) = Bool.false, ((↑(ByteArray.size x0) : Int) == 0) = Bool.false, InR IntKind.i64 ((↑(ByteArray.size x0) : Int) - 0), Decidable.decide ((↑(ByteArray.size x0) : Int) - 0 > 18) = Bool.false, (0 : Int) ≤ (0 : Int), 0 < (↑(ByteArray.size x0) : Int), ((↑(UInt8.toNat (List.getD (Array.toList (ByteArray.data x0)) 0 0)) : Int) == 48) = Bool.false, Bool.false = Bool.false]) := by kernel_rfl
theorem p32_10 (x0 : ByteArray) : runF tab ext32 false 62 [] 2000 [] tys32 Tryz.f32.results [false, false, true, true, true] [.code b32] (entE 0 0 sig32 (x0, ())) (entL sig32 (x0, ())) = some ([Dyn.mk (Ty.int IntKind.i64) 0, Dyn.mk Ty.bool Bool.false], [], [Decidable.decide ((↑(ByteArray.size x0) : Int) > 0) = Bool.false, Bool.false = Bool.false, ((↑(ByteArray.size x0) : Int) == 0) = Bool.true, Bool.true = Bool.true, Bool.true = Bool.true]) := by kernel_rfl
theorem p32_11 (x0 : ByteArray) : runF tab ext32 false 62 [] 2000 [] tys32 Tryz.f32.results [false, false, false, true, true] [.code b32] (entE 0 0 sig32 (x0, ())) (entL sig32 (x0, ())) = some ([Dyn.mk (Ty.int IntKind.i64) 0, Dyn.mk Ty.bool Bool.false], [], [Decidable.decide ((↑(ByteArray.size x0) : Int) > 0) = Bool.false, Bool.false = Bool.false, ((↑(ByteArray.size x0) : Int) == 0) = Bool.false, InR IntKind.i64 ((↑(ByteArray.size x0) : Int) - 0), Decidable.decide ((↑(ByteArray.size x0) : Int) - 0 > 18) = Bool.true, Bool.true = Bool.true]) := by kernel_rfl
theorem p32_12 (x0 : ByteArray) : runF tab ext32 false 62 [] 2000 [] tys32 Tryz.f32.results [false, false, false, false, true, true] [.code b32] (entE 0 0 sig32 (x0, ())) (entL sig32 (x0, ())) = some ([Dyn.mk (Ty.int IntKind.i64) 0, Dyn.mk Ty.bool Bool.false], [], [Decidable.decide ((↑(ByteArray.size x0) : Int) > 0) = Bool.false, Bool.false = Bool.false, ((↑(ByteArray.size x0) : Int) == 0) = Bool.false, InR IntKind.i64 ((↑(ByteArray.size x0) : Int) - 0), Decidable.decide ((↑(ByteArray.size x0) : Int) - 0 > 18) = Bool.false, (0 : Int) ≤ (0 : Int), 0 < (↑(ByteArray.size x0) : Int), ((↑(UInt8.toNat (List.getD (Array.toList (ByteArray.data x0)) 0 0)) : Int) == 48) = Bool.true, Decidable.decide ((↑(ByteArray.size x0) : Int) > 1) = Bool.true]) := by kernel_rfl
theorem p32_13 (x0 : ByteArray) : Am.runN tab ext32 false 62 [] 2000 [] [] [0, 4, 5, 6] [] [false, false, false, false, true, false] [.code b32] (entE 0 0 sig32 (x0, ())) (entL sig32 (x0, ())) = some (cutAt b32 8, E32_8 (0) (0) (0) (x0), L32_8 (0) (0) (0) (x0), [Decidable.decide ((↑(ByteArray.size x0) : Int) > 0) = Bool.false, Bool.false = Bool.false, ((↑(ByteArray.size x0) : Int) == 0) = Bool.false, InR IntKind.i64 ((↑(ByteArray.size x0) : Int) - 0), Decidable.decide ((↑(ByteArray.size x0) : Int) - 0 > 18) = Bool.false, (0 : Int) ≤ (0 : Int), 0 < (↑(ByteArray.size x0) : Int), ((↑(UInt8.toNat (List.getD (Array.toList (ByteArray.data x0)) 0 0)) : Int) == 48) = Bool.true, Decidable.decide ((↑(ByteArray.size x0) : Int) > 1) = Bool.false]) := by kernel_rfl
theorem p32_14 (x0 : ByteArray) : Am.runN tab ext32 false 62 [] 2000 [] [] [0, 4, 5, 6] [] [false, false, false, false, false, false] [.code b32] (entE 0 0 sig32 (x0, ())) (entL sig32 (x0, ())) = some (cutAt b32 8, E32_8 (0) (0) (0) (x0), L32_8 (0) (0) (0) (x0), [Decidable.decide ((↑(ByteArray.size x0) : Int) > 0) = Bool.false, Bool.false = Bool.false, ((↑(ByteArray.size x0) : Int) == 0) = Bool.false, InR IntKind.i64 ((↑(ByteArray.size x0) : Int) - 0), Decidable.decide ((↑(ByteArray.size x0) : Int) - 0 > 18) = Bool.false, (0 : Int) ≤ (0 : Int), 0 < (↑(ByteArray.size x0) : Int), ((↑(UInt8.toNat (List.getD (Array.toList (ByteArray.data x0)) 0 0)) : Int) == 48) = Bool.false, Bool.false = Bool.false]) := by kernel_rfl
theorem p32_15 (v4 : Int) (v5 : Int) (v6 : Int) (x0 : ByteArray) : runF tab ext32 false 62 [] 2000 [] tys32 Tryz.f32.results [true, true] (cutAt b32 8) (E32_8 v4 v5 v6 x0) (L32_8 v4 v5 v6 x0) = some ([Dyn.mk (Ty.int IntKind.i64) 0, Dyn.mk Ty.bool Bool.false], [], [Decidable.decide (v6 < (↑(ByteArray.size x0) : Int)) = Bool.true, 0 ≤ v6, v6 < (↑(ByteArray.size x0) : Int), True, (!g45_0 (↑(UInt8.toNat (List.getD (Array.toList (ByteArray.data x0)) (Int.toNat v6) 0)) : Int)) = Bool.true]) := by kernel_rfl
theorem p32_16 (v4 : Int) (v5 : Int) (v6 : Int) (x0 : ByteArray) : Am.runN tab ext32 false 62 [] 2000 [] [] [0, 4, 5, 6] [] [true, false] (cutAt b32 8) (E32_8 v4 v5 v6 x0) (L32_8 v4 v5 v6 x0) = some (cutAt b32 8, E32_8 (v4) (10 * v5 + ((↑(UInt8.toNat (List.getD (Array.toList (ByteArray.data x0)) (Int.toNat v6) 0)) : Int) - 48)) (v6 + 1) (x0), L32_8 (v4) (10 * v5 + ((↑(UInt8.toNat (List.getD (Array.toList (ByteArray.data x0)) (Int.toNat v6) 0)) : Int) - 48)) (v6 + 1) (x0), [Decidable.decide (v6 < (↑(ByteArray.size x0) : Int)) = Bool.true, 0 ≤ v6, v6 < (↑(ByteArray.size x0) : Int), True, (!g45_0 (↑(UInt8.toNat (List.getD (Array.toList (ByteArray.data x0)) (Int.toNat v6) 0)) : Int)) = Bool.false, InR IntKind.i64 (10 * v5), 0 ≤ v6, v6 < (↑(ByteArray.size x0) : Int), InR IntKind.u8 ((↑(UInt8.toNat (List.getD (Array.toList (ByteArray.data x0)) (Int.toNat v6) 0)) : Int) - 48), InR IntKind.i64 ((↑(UInt8.toNat (List.getD (Array.toList (ByteArray.data x0)) (Int.toNat v6) 0)) : Int) - 48), InR IntKind.i64 (10 * v5 + ((↑(UInt8.toNat (List.getD (Array.toList (ByteArray.data x0)) (Int.toNat v6) 0)) : Int) - 48)), InR IntKind.i64 (v6 + 1)]) := by kernel_rfl
theorem p32_17 (v4 : Int) (v5 : Int) (v6 : Int) (x0 : ByteArray) : runF tab ext32 false 62 [] 2000 [] tys32 Tryz.f32.results [false, true] (cutAt b32 8) (E32_8 v4 v5 v6 x0) (L32_8 v4 v5 v6 x0) = some ([Dyn.mk (Ty.int IntKind.i64) (0 - v5), Dyn.mk Ty.bool Bool.true], [], [Decidable.decide (v6 < (↑(ByteArray.size x0) : Int)) = Bool.false, (v4 == 1) = Bool.true, InR IntKind.i64 (0 - v5)]) := by kernel_rfl
theorem p32_18 (v4 : Int) (v5 : Int) (v6 : Int) (x0 : ByteArray) : runF tab ext32 false 62 [] 2000 [] tys32 Tryz.f32.results [false, false] (cutAt b32 8) (E32_8 v4 v5 v6 x0) (L32_8 v4 v5 v6 x0) = some ([Dyn.mk (Ty.int IntKind.i64) v5, Dyn.mk Ty.bool Bool.true], [], [Decidable.decide (v6 < (↑(ByteArray.size x0) : Int)) = Bool.false, (v4 == 1) = Bool.false]) := by kernel_rfl
theorem snd32 : ∀ n, (∀ (x0 : ByteArray) ds, R32 n x0 ds → ∀ w0 O q, AtV Tryz.prog 32 (PostR ds [] [] q w0 O) 62 w0 O q [] [.code b32] (entE 0 0 sig32 (x0, ())) (entL sig32 (x0, ()))) ∧ (∀ (v4 : Int) (v5 : Int) (v6 : Int) (x0 : ByteArray) ds, R32_8 n v4 v5 v6 x0 ds → ∀ w0 O q, AtV Tryz.prog 32 (PostR ds [] [] q w0 O) 62 w0 O q [] (cutAt b32 8) (E32_8 v4 v5 v6 x0) (L32_8 v4 v5 v6 x0)) := by
  intro n
  induction n with
  | zero => exact ⟨fun _ _ h => by simp only [R32] at h, fun _ _ _ _ _ h => by simp only [R32_8] at h⟩
  | succ n ih =>
  obtain ⟨ih, ih8⟩ := ih
  refine ⟨?_, ?_⟩
  · intro x0 ds h w0 O q
    rw [R32] at h
    by_cases b0 : (Decidable.decide ((↑(ByteArray.size x0) : Int) > 0)) = true
    · rw [if_pos b0] at h
      obtain ⟨s0, h⟩ := h
      by_cases b1 : ((↑(UInt8.toNat (List.getD (Array.toList (ByteArray.data x0)) 0 0)) : Int) == 45) = true
      · rw [if_pos b1] at h
        by_cases b2 : ((↑(ByteArray.size x0) : Int) == 1) = true
        · rw [if_pos b2] at h
          subst h
          exact AtV.fin Tryz.func32 tabOk ext32Ok mixed (p32_0 x0) ⟨b0, (by decide), s0, b1, b2, rfl, rfl, trivial⟩
        · rw [if_neg b2] at h
          replace b2 := Bool.eq_false_iff.2 b2
          obtain ⟨s1, h⟩ := h
          by_cases b3 : (Decidable.decide ((↑(ByteArray.size x0) : Int) - 1 > 18)) = true
          · rw [if_pos b3] at h
            subst h
            exact AtV.fin Tryz.func32 tabOk ext32Ok mixed (p32_1 x0) ⟨b0, (by decide), s0, b1, b2, s1, b3, rfl, trivial⟩
          · rw [if_neg b3] at h
            replace b3 := Bool.eq_false_iff.2 b3
            obtain ⟨s2, h⟩ := h
            by_cases b4 : ((↑(UInt8.toNat (List.getD (Array.toList (ByteArray.data x0)) 1 0)) : Int) == 48) = true
            · rw [if_pos b4] at h
              by_cases b5 : (Decidable.decide ((↑(ByteArray.size x0) : Int) > 1)) = true
              · rw [if_pos b5] at h
                subst h
                exact AtV.fin Tryz.func32 tabOk ext32Ok mixed (p32_2 x0) ⟨b0, (by decide), s0, b1, b2, s1, b3, (by decide), s2, b4, b5, trivial⟩
              · rw [if_neg b5] at h
                replace b5 := Bool.eq_false_iff.2 b5
                exact AtV.runN tabOk ext32Ok mixed (p32_3 x0) ⟨b0, (by decide), s0, b1, b2, s1, b3, (by decide), s2, b4, b5, trivial⟩ (ih8 _ _ _ _ _ h w0 O q)
            · rw [if_neg b4] at h
              replace b4 := Bool.eq_false_iff.2 b4
              exact AtV.runN tabOk ext32Ok mixed (p32_4 x0) ⟨b0, (by decide), s0, b1, b2, s1, b3, (by decide), s2, b4, rfl, trivial⟩ (ih8 _ _ _ _ _ h w0 O q)
      · rw [if_neg b1] at h
        replace b1 := Bool.eq_false_iff.2 b1
        by_cases b2 : ((↑(ByteArray.size x0) : Int) == 0) = true
        · rw [if_pos b2] at h
          subst h
          exact AtV.fin Tryz.func32 tabOk ext32Ok mixed (p32_5 x0) ⟨b0, (by decide), s0, b1, b2, rfl, rfl, trivial⟩
        · rw [if_neg b2] at h
          replace b2 := Bool.eq_false_iff.2 b2
          obtain ⟨s1, h⟩ := h
          by_cases b3 : (Decidable.decide ((↑(ByteArray.size x0) : Int) - 0 > 18)) = true
          · rw [if_pos b3] at h
            subst h
            exact AtV.fin Tryz.func32 tabOk ext32Ok mixed (p32_6 x0) ⟨b0, (by decide), s0, b1, b2, s1, b3, rfl, trivial⟩
          · rw [if_neg b3] at h
            replace b3 := Bool.eq_false_iff.2 b3
            obtain ⟨s2, h⟩ := h
            by_cases b4 : ((↑(UInt8.toNat (List.getD (Array.toList (ByteArray.data x0)) 0 0)) : Int) == 48) = true
            · rw [if_pos b4] at h
              by_cases b5 : (Decidable.decide ((↑(ByteArray.size x0) : Int) > 1)) = true
              · rw [if_pos b5] at h
                subst h
                exact AtV.fin Tryz.func32 tabOk ext32Ok mixed (p32_7 x0) ⟨b0, (by decide), s0, b1, b2, s1, b3, (by decide), s2, b4, b5, trivial⟩
              · rw [if_neg b5] at h
                replace b5 := Bool.eq_false_iff.2 b5
                exact AtV.runN tabOk ext32Ok mixed (p32_8 x0) ⟨b0, (by decide), s0, b1, b2, s1, b3, (by decide), s2, b4, b5, trivial⟩ (ih8 _ _ _ _ _ h w0 O q)
            · rw [if_neg b4] at h
              replace b4 := Bool.eq_false_iff.2 b4
              exact AtV.runN tabOk ext32Ok mixed (p32_9 x0) ⟨b0, (by decide), s0, b1, b2, s1, b3, (by decide), s2, b4, rfl, trivial⟩ (ih8 _ _ _ _ _ h w0 O q)
    · rw [if_neg b0] at h
      replace b0 := Bool.eq_false_iff.2 b0
      by_cases b1 : ((↑(ByteArray.size x0) : Int) == 0) = true
      · rw [if_pos b1] at h
        subst h
        exact AtV.fin Tryz.func32 tabOk ext32Ok mixed (p32_10 x0) ⟨b0, rfl, b1, rfl, rfl, trivial⟩
      · rw [if_neg b1] at h
        replace b1 := Bool.eq_false_iff.2 b1
        obtain ⟨s0, h⟩ := h
        by_cases b2 : (Decidable.decide ((↑(ByteArray.size x0) : Int) - 0 > 18)) = true
        · rw [if_pos b2] at h
          subst h
          exact AtV.fin Tryz.func32 tabOk ext32Ok mixed (p32_11 x0) ⟨b0, rfl, b1, s0, b2, rfl, trivial⟩
        · rw [if_neg b2] at h
          replace b2 := Bool.eq_false_iff.2 b2
          obtain ⟨s1, h⟩ := h
          by_cases b3 : ((↑(UInt8.toNat (List.getD (Array.toList (ByteArray.data x0)) 0 0)) : Int) == 48) = true
          · rw [if_pos b3] at h
            by_cases b4 : (Decidable.decide ((↑(ByteArray.size x0) : Int) > 1)) = true
            · rw [if_pos b4] at h
              subst h
              exact AtV.fin Tryz.func32 tabOk ext32Ok mixed (p32_12 x0) ⟨b0, rfl, b1, s0, b2, (by decide), s1, b3, b4, trivial⟩
            · rw [if_neg b4] at h
              replace b4 := Bool.eq_false_iff.2 b4
              exact AtV.runN tabOk ext32Ok mixed (p32_13 x0) ⟨b0, rfl, b1, s0, b2, (by decide), s1, b3, b4, trivial⟩ (ih8 _ _ _ _ _ h w0 O q)
          · rw [if_neg b3] at h
            replace b3 := Bool.eq_false_iff.2 b3
            exact AtV.runN tabOk ext32Ok mixed (p32_14 x0) ⟨b0, rfl, b1, s0, b2, (by decide), s1, b3, rfl, trivial⟩ (ih8 _ _ _ _ _ h w0 O q)

  · intro v4 v5 v6 x0 ds h w0 O q
    rw [R32_8] at h
    by_cases b0 : (Decidable.decide (v6 < (↑(ByteArray.size x0) : Int))) = true
    · rw [if_pos b0] at h
      obtain ⟨s0, s1, h⟩ := h
      by_cases b1 : (!g45_0 (↑(UInt8.toNat (List.getD (Array.toList (ByteArray.data x0)) (Int.toNat v6) 0)) : Int)) = true
      · rw [if_pos b1] at h
        subst h
        exact AtV.fin Tryz.func32 tabOk ext32Ok mixed (p32_15 v4 v5 v6 x0) ⟨b0, s0, s1, trivial, b1, trivial⟩
      · rw [if_neg b1] at h
        replace b1 := Bool.eq_false_iff.2 b1
        obtain ⟨s2, h⟩ := h
        obtain ⟨s3, s4, h⟩ := h
        obtain ⟨s5, h⟩ := h
        obtain ⟨s6, h⟩ := h
        obtain ⟨s7, h⟩ := h
        obtain ⟨s8, h⟩ := h
        exact AtV.runN tabOk ext32Ok mixed (p32_16 v4 v5 v6 x0) ⟨b0, s0, s1, trivial, b1, s2, s3, s4, s5, s6, s7, s8, trivial⟩ (ih8 _ _ _ _ _ h w0 O q)
    · rw [if_neg b0] at h
      replace b0 := Bool.eq_false_iff.2 b0
      by_cases b1 : (v4 == 1) = true
      · rw [if_pos b1] at h
        obtain ⟨s0, h⟩ := h
        subst h
        exact AtV.fin Tryz.func32 tabOk ext32Ok mixed (p32_17 v4 v5 v6 x0) ⟨b0, b1, s0, trivial⟩
      · rw [if_neg b1] at h
        replace b1 := Bool.eq_false_iff.2 b1
        subst h
        exact AtV.fin Tryz.func32 tabOk ext32Ok mixed (p32_18 v4 v5 v6 x0) ⟨b0, b1, trivial⟩



def d32 (b : UInt8) : Bool := decide (48 ≤ b.toNat) && decide (b.toNat ≤ 57)
def dig32 : List UInt8 → Int → Int × Bool
  | [], n => (n, true)
  | b :: r, n => if d32 b then dig32 r (10 * n + ((b.toNat : Int) - 48)) else (0, false)
def fin32 (off : Nat) (p : Int × Bool) : Int × Bool := if off = 1 then (0 - p.1, p.2) else p
def num32 : List UInt8 → Int × Bool
  | [] => (0, false)
  | b :: r => if b.toNat = 45 then (if r.length = 0 ∨ 18 < r.length ∨ (r.getD 0 0).toNat = 48 then (0, false) else fin32 1 (dig32 r 0))
    else if 18 < r.length + 1 ∨ (b.toNat = 48 ∧ 0 < r.length) then (0, false) else fin32 0 (dig32 (b :: r) 0)
def g32_0 (x0 : ByteArray) : Int := (num32 x0.data.toList).1
def g32_1 (x0 : ByteArray) : Bool := (num32 x0.data.toList).2
def P32 (x0 : ByteArray) : Prop := True

theorem run32 (x0 : ByteArray) (off : Nat) (hs : x0.size ≤ off + 18) (ho : off ≤ 1) : ∀ (k j m : Nat), off + j + k = x0.size → m < 10 ^ j →
    R32_8 (k + 1) (off : Int) (m : Int) ((off + j : Nat) : Int) x0 [⟨.int .i64, (fin32 off (dig32 (x0.data.toList.drop (off + j)) (m : Int))).1⟩, ⟨.bool, (fin32 off (dig32 (x0.data.toList.drop (off + j)) (m : Int))).2⟩] := by
  intro k
  have hll : x0.data.toList.length = x0.size := rfl
  induction k with
  | zero =>
    intro j m hi hm
    have hp : 10 ^ j ≤ 10 ^ 18 := Nat.pow_le_pow_right (by decide) (by omega)
    have hm2 : m < 1000000000000000000 := Nat.lt_of_lt_of_le hm hp
    rw [R32_8, if_neg (by simp; omega), List.drop_of_length_le (by omega)]
    unfold fin32 dig32
    by_cases h1 : off = 1
    · subst h1
      rw [if_pos (by rfl)]
      exact ⟨by rw [i64_iff]; omega, rfl⟩
    · obtain rfl : off = 0 := by omega
      rw [if_neg (by decide)]
      rfl
  | succ k ih =>
    intro j m hi hm
    have hlt : off + j < x0.data.toList.length := by rw [hll]; omega
    have hcons : x0.data.toList.drop (off + j) = x0.data.toList.getD (off + j) 0 :: x0.data.toList.drop (off + j + 1) := drop_get _ _ 0 hlt
    rw [R32_8, if_pos (by simp only [decide_eq_true_eq]; omega), hcons]
    simp only [Int.toNat_natCast]
    generalize x0.data.toList.getD (off + j) 0 = b at *
    refine ⟨by omega, by omega, ?_⟩
    have hg : g45_0 (b.toNat : Int) = d32 b := by
      unfold g45_0 d32
      by_cases h1 : 48 ≤ b.toNat
      · have h1' : (b.toNat : Int) ≥ 48 := by omega
        by_cases h2 : b.toNat ≤ 57
        · have h2' : (b.toNat : Int) ≤ 57 := by omega
          simp [h1, h2, h1', h2']
        · have h2' : ¬ (b.toNat : Int) ≤ 57 := by omega
          simp [h1, h2, h1', h2']
      · have h1' : ¬ (b.toNat : Int) ≥ 48 := by omega
        simp [h1, h1']
    rw [hg]
    unfold dig32
    cases hd : d32 b with
    | false => simp [fin32]
    | true =>
      have hd' : 48 ≤ b.toNat ∧ b.toNat ≤ 57 := by unfold d32 at hd; simpa using hd
      have hp : 10 ^ j ≤ 10 ^ 17 := Nat.pow_le_pow_right (by decide) (by omega)
      have hm2 : m < 100000000000000000 := Nat.lt_of_lt_of_le hm hp
      simp only [Bool.not_true, Bool.false_eq_true, if_false, if_true]
      refine ⟨by rw [i64_iff]; omega, by omega, by omega, ?_, by rw [i64_iff]; omega, by rw [i64_iff]; omega, by rw [i64_iff]; omega, ?_⟩
      · rw [u8_iff]; omega
      · have e1 : 10 * (m : Int) + ((b.toNat : Int) - 48) = ((10 * m + (b.toNat - 48) : Nat) : Int) := by omega
        have e2 : ((off + j : Nat) : Int) + 1 = ((off + (j + 1) : Nat) : Int) := by omega
        rw [e1, e2]
        exact ih (j + 1) (10 * m + (b.toNat - 48)) (by omega) (by rw [Nat.pow_succ]; omega)

theorem top32 (x0 : ByteArray) (hm : x0.size ≤ 9223372036854775807) : ∃ n, R32 n x0 [⟨.int .i64, g32_0 x0⟩, ⟨.bool, g32_1 x0⟩] := by
  obtain ⟨⟨l⟩⟩ := x0
  unfold g32_0 g32_1
  cases l with
  | nil => exact ⟨1, by
      rw [R32, if_neg (by decide), if_pos (by decide)]
      rfl⟩
  | cons b r =>
    have hsz : (ByteArray.mk ⟨b :: r⟩).size = r.length + 1 := rfl
    rw [hsz] at hm
    have g0 : List.getD (Array.toList (ByteArray.data (ByteArray.mk ⟨b :: r⟩))) 0 0 = b := rfl
    have g1 : List.getD (Array.toList (ByteArray.data (ByteArray.mk ⟨b :: r⟩))) 1 0 = r.getD 0 0 := rfl
    by_cases hb : b.toNat = 45
    · refine ⟨(r.length - 0 + 1) + 1, ?_⟩
      rw [R32, hsz, g0, g1, if_pos (by simp only [decide_eq_true_eq]; omega)]
      refine ⟨by omega, ?_⟩
      rw [if_pos (by rw [hb]; rfl)]
      show _
      unfold num32
      simp only [if_pos hb]
      by_cases h0 : r.length = 0
      · rw [if_pos (by rw [h0]; rfl), if_pos (.inl h0)]
      · rw [if_neg (by simp; omega)]
        refine ⟨by rw [i64_iff]; omega, ?_⟩
        by_cases h18 : 18 < r.length
        · rw [if_pos (by simp only [decide_eq_true_eq]; omega), if_pos (.inr (.inl h18))]
        · rw [if_neg (by simp only [decide_eq_true_eq]; omega)]
          refine ⟨by omega, ?_⟩
          by_cases h48 : (r.getD 0 0).toNat = 48
          · rw [if_pos (by rw [h48]; rfl), if_pos (by simp only [decide_eq_true_eq]; omega), if_pos (.inr (.inr h48))]
          · rw [if_neg (by rw [beq_iff_eq]; omega), if_neg (by omega)]
            exact run32 ⟨⟨b :: r⟩⟩ 1 (by rw [hsz]; omega) (by omega) r.length 0 0 (by rw [hsz]; omega) (by decide)
    · refine ⟨(r.length + 1 + 1) + 1, ?_⟩
      rw [R32, hsz, g0, if_pos (by simp only [decide_eq_true_eq]; omega)]
      refine ⟨by omega, ?_⟩
      rw [if_neg (by simp; omega)]
      unfold num32
      simp only [if_neg hb]
      rw [if_neg (by simp; omega)]
      refine ⟨by rw [i64_iff]; omega, ?_⟩
      by_cases h18 : 18 < r.length + 1
      · rw [if_pos (by simp only [decide_eq_true_eq]; omega), if_pos (.inl h18)]
      · rw [if_neg (by simp only [decide_eq_true_eq]; omega)]
        refine ⟨by omega, ?_⟩
        by_cases h48 : b.toNat = 48
        · rw [if_pos (by rw [h48]; rfl)]
          by_cases hr : 0 < r.length
          · rw [if_pos (by simp only [decide_eq_true_eq]; omega), if_pos (.inr ⟨h48, hr⟩)]
          · rw [if_neg (by simp only [decide_eq_true_eq]; omega), if_neg (by omega)]
            exact run32 ⟨⟨b :: r⟩⟩ 0 (by rw [hsz]; omega) (by omega) (r.length + 1) 0 0 (by rw [hsz]; omega) (by decide)
        · rw [if_neg (by simp; omega), if_neg (by omega)]
          exact run32 ⟨⟨b :: r⟩⟩ 0 (by rw [hsz]; omega) (by omega) (r.length + 1) 0 0 (by rw [hsz]; omega) (by decide)

def S32 : Am.Spec := { sig := sig32, pre := fun ⟨x0, _⟩ => P32 x0, res := fun ⟨x0, _⟩ => [⟨.int .i64, g32_0 x0⟩, ⟨.bool, g32_1 x0⟩] }
theorem con32 : Contract Tryz.prog 32 S32 := contract_of Tryz.func32 hb32 (Nat.le_of_ble_eq_true (by kernel_rfl)) (fun ⟨x0, _⟩ h hwf w0 O q => by
  obtain ⟨n, hn⟩ := top32 x0 hwf.1
  exact (snd32 n).1 x0 _ hn w0 O q)

end Go.Proofs.YteojabdeehagnaaGreatDoor

/- Function 33 (spec.l00In): its runs between cut points. Written by a program of this repo (gen). -/
set_option linter.unusedVariables false
set_option linter.unusedSimpArgs false
set_option maxRecDepth 100000
namespace Go.Proofs.YteojabdeehagnaaGreatDoor
open Go Go.Am Go.Proofs
def ext33 : Ext := []
theorem ext33Ok : ExtOk Tryz.prog ext33 := trivial
/-! Function 33. -/
noncomputable def b33 : Code := bodyOf Tryz.f33
theorem hb33 : Tryz.f33.body = some b33 := by kernel_rfl
def sig33 : List AT := [AT.v (Ty.int IntKind.i64), AT.v (Ty.int IntKind.i64), AT.v (Ty.int IntKind.i64)]
def tys33 : List Ty := [Ty.bool]
def P33 (x0 : Int) (x1 : Int) (x2 : Int) : Prop := True
def g33_0 (x0 : Int) (x1 : Int) (x2 : Int) : Bool := (if (Decidable.decide (x0 ≥ x1)) = true then Decidable.decide (x0 ≤ x2) else Bool.false)
theorem p33_0 (x0 : Int) (x1 : Int) (x2 : Int) : runF tab ext33 false 15 [] 2000 [] tys33 Tryz.f33.results [true] [.code b33] (entE 0 0 sig33 (x0, x1, x2, ())) (entL sig33 (x0, x1, x2, ())) = some ([Dyn.mk Ty.bool (Decidable.decide (x0 ≤ x2))], [], [Decidable.decide (x0 ≥ x1) = Bool.true]) := by kernel_rfl
theorem p33_1 (x0 : Int) (x1 : Int) (x2 : Int) : runF tab ext33 false 15 [] 2000 [] tys33 Tryz.f33.results [false] [.code b33] (entE 0 0 sig33 (x0, x1, x2, ())) (entL sig33 (x0, x1, x2, ())) = some ([Dyn.mk Ty.bool Bool.false], [], [Decidable.decide (x0 ≥ x1) = Bool.false]) := by kernel_rfl
theorem at33 (x0 : Int) (x1 : Int) (x2 : Int) (h : P33 x0 x1 x2) (w0 : World) (O : List Nat) (q : Nat → Value) : AtV Tryz.prog 33 (PostR [⟨Ty.bool, g33_0 x0 x1 x2⟩] [] [] q w0 O) 15 w0 O q [] [.code b33] (entE 0 0 sig33 (x0, x1, x2, ())) (entL sig33 (x0, x1, x2, ())) := by
  unfold P33 at h
  unfold g33_0
  by_cases b0 : (Decidable.decide (x0 ≥ x1)) = true
  · try simp only [if_pos b0] at h ⊢
    exact AtV.fin Tryz.func33 tabOk ext33Ok mixed (p33_0 x0 x1 x2) ⟨b0, trivial⟩
  · try simp only [if_neg b0] at h ⊢
    replace b0 := Bool.eq_false_iff.2 b0
    exact AtV.fin Tryz.func33 tabOk ext33Ok mixed (p33_1 x0 x1 x2) ⟨b0, trivial⟩

def S33 : Am.Spec := { sig := sig33, pre := fun ⟨x0, x1, x2, _⟩ => P33 x0 x1 x2, res := fun ⟨x0, x1, x2, _⟩ => [⟨Ty.bool, g33_0 x0 x1 x2⟩] }
theorem con33 : Contract Tryz.prog 33 S33 := contract_of Tryz.func33 hb33 (Nat.le_of_ble_eq_true (by kernel_rfl)) (fun ⟨x0, x1, x2, _⟩ h _ w0 O q => at33 x0 x1 x2 h w0 O q)


end Go.Proofs.YteojabdeehagnaaGreatDoor

/- Function 25 (spec.ReadList): its runs between cut points. Written by a program of this repo (gen). -/
set_option linter.unusedVariables false
set_option linter.unusedSimpArgs false
set_option maxRecDepth 100000
namespace Go.Proofs.YteojabdeehagnaaGreatDoor
open Go Go.Am Go.Proofs
def ext25 : Ext := [(24, S24), (32, S32), (33, S33)]
theorem call25_24 : Callable Tryz.prog 24 := ⟨Tryz.f24, Tryz.func24, by kernel_rfl, by kernel_rfl⟩
theorem call25_32 : Callable Tryz.prog 32 := ⟨Tryz.f32, Tryz.func32, by kernel_rfl, by kernel_rfl⟩
theorem call25_33 : Callable Tryz.prog 33 := ⟨Tryz.f33, Tryz.func33, by kernel_rfl, by kernel_rfl⟩
theorem ext25Ok : ExtOk Tryz.prog ext25 := ⟨⟨call25_24, con24⟩, ⟨call25_32, con32⟩, ⟨call25_33, con33⟩, trivial⟩
/-! Function 25. -/
noncomputable def b25 : Code := bodyOf Tryz.f25
theorem hb25 : Tryz.f25.body = some b25 := by kernel_rfl
def sig25 : List AT := [AT.v (Ty.str)]
def tys25 : List Ty := [Ty.sl (Ty.int IntKind.i64), Ty.bool]
def E25_8 (v6 : Int) (h1 : List Int) (x0 : ByteArray) : Env := [(4, PV.a (Atom.osl 0 Option.none)), (5, PV.a (Atom.osl 1 Option.none)), (6, PV.a (Atom.val (Value.int IntKind.i64 v6)))]
def L25_8 (v6 : Int) (h1 : List Int) (x0 : ByteArray) : Heap := [Option.some (Arr.mk Ty.str (g24_0 x0 44) Bool.false), Option.some (Arr.mk (Ty.int IntKind.i64) h1 Bool.false)]
mutual
def R25 : Nat → ByteArray → List Dyn → Prop
  | 0, _, _ => False
  | n + 1, x0, ds => (if (ByteArray.toList x0 == ByteArray.toList (ByteArray.mk #[45])) = true then (ds = [Dyn.mk (Ty.sl (Ty.int IntKind.i64)) [], Dyn.mk Ty.bool Bool.true]) else ((P24 x0 44) ∧ (if (Decidable.decide ((↑(List.length (g24_0 x0 44)) : Int) > 64)) = true then (ds = [Dyn.mk (Ty.sl (Ty.int IntKind.i64)) [], Dyn.mk Ty.bool Bool.false]) else (R25_8 n (0) ([]) (x0) ds))))
def R25_8 : Nat → Int → List Int → ByteArray → List Dyn → Prop
  | 0, _, _, _, _ => False
  | n + 1, v6, h1, x0, ds => (if (Decidable.decide (v6 < (↑(List.length (g24_0 x0 44)) : Int))) = true then ((0 ≤ v6) ∧ (v6 < (↑(List.length (g24_0 x0 44)) : Int)) ∧ (if (!g32_1 (List.getD (g24_0 x0 44) (Int.toNat v6) ByteArray.empty)) = true then (ds = [Dyn.mk (Ty.sl (Ty.int IntKind.i64)) [], Dyn.mk Ty.bool Bool.false]) else (if (!g33_0 (g32_0 (List.getD (g24_0 x0 44) (Int.toNat v6) ByteArray.empty)) (-1000000000000) 1000000000000) = true then (ds = [Dyn.mk (Ty.sl (Ty.int IntKind.i64)) [], Dyn.mk Ty.bool Bool.false]) else (((List.length h1 + 1) * 8 ≤ 140737488355328) ∧ ((InR IntKind.i64 (v6 + 1)) ∧ (R25_8 n (v6 + 1) (h1 ++ [g32_0 (List.getD (g24_0 x0 44) (Int.toNat v6) ByteArray.empty)]) (x0) ds)))))) else (ds = [Dyn.mk (Ty.sl (Ty.int IntKind.i64)) h1, Dyn.mk Ty.bool Bool.true]))
end
theorem p25_0 (x0 : ByteArray) : runF tab ext25 false 44 [] 2000 [] tys25 Tryz.f25.results [true] [.code b25] (entE 0 0 sig25 (x0, ())) (entL sig25 (x0, ())) = some ([Dyn.mk (Ty.sl (Ty.int IntKind.i64)) [], Dyn.mk Ty.bool Bool.true], [], [(ByteArray.toList x0 == ByteArray.toList (ByteArray.mk #[45])) = Bool.true]) := by kernel_rfl
theorem p25_1 (x0 : ByteArray) : runF tab ext25 false 44 [] 2000 [] tys25 Tryz.f25.results [false, true] [.code b25] (entE 0 0 sig25 (x0, ())) (entL sig25 (x0, ())) = some ([Dyn.mk (Ty.sl (Ty.int IntKind.i64)) [], Dyn.mk Ty.bool Bool.false], [], [(ByteArray.toList x0 == ByteArray.toList (ByteArray.mk #[45])) = Bool.false, P24 x0 44, Decidable.decide ((↑(List.length (g24_0 x0 44)) : Int) > 64) = Bool.true]) := by kernel_rfl
theorem p25_2 (x0 : ByteArray) : Am.runN tab ext25 false 44 [] 2000 [] [] [4, 5, 6] [0, 1] [false, false] [.code b25] (entE 0 0 sig25 (x0, ())) (entL sig25 (x0, ())) = some (cutAt b25 8, E25_8 (0) ([]) (x0), L25_8 (0) ([]) (x0), [(ByteArray.toList x0 == ByteArray.toList (ByteArray.mk #[45])) = Bool.false, P24 x0 44, Decidable.decide ((↑(List.length (g24_0 x0 44)) : Int) > 64) = Bool.false]) := by kernel_rfl
theorem p25_3 (v6 : Int) (h1 : List Int) (x0 : ByteArray) : runF tab ext25 false 44 [] 2000 [] tys25 Tryz.f25.results [true, true, true] (cutAt b25 8) (E25_8 v6 h1 x0) (L25_8 v6 h1 x0) = some ([Dyn.mk (Ty.sl (Ty.int IntKind.i64)) [], Dyn.mk Ty.bool Bool.false], [], [Decidable.decide (v6 < (↑(List.length (g24_0 x0 44)) : Int)) = Bool.true, 0 ≤ v6, v6 < (↑(List.length (g24_0 x0 44)) : Int), True, (!g32_1 (List.getD (g24_0 x0 44) (Int.toNat v6) ByteArray.empty)) = Bool.true, Bool.true = Bool.true]) := by kernel_rfl
theorem p25_4 (v6 : Int) (h1 : List Int) (x0 : ByteArray) : runF tab ext25 false 44 [] 2000 [] tys25 Tryz.f25.results [true, false, true] (cutAt b25 8) (E25_8 v6 h1 x0) (L25_8 v6 h1 x0) = some ([Dyn.mk (Ty.sl (Ty.int IntKind.i64)) [], Dyn.mk Ty.bool Bool.false], [], [Decidable.decide (v6 < (↑(List.length (g24_0 x0 44)) : Int)) = Bool.true, 0 ≤ v6, v6 < (↑(List.length (g24_0 x0 44)) : Int), True, (!g32_1 (List.getD (g24_0 x0 44) (Int.toNat v6) ByteArray.empty)) = Bool.false, True, (!g33_0 (g32_0 (List.getD (g24_0 x0 44) (Int.toNat v6) ByteArray.empty)) (-1000000000000) 1000000000000) = Bool.true]) := by kernel_rfl
theorem p25_5 (v6 : Int) (h1 : List Int) (x0 : ByteArray) : Am.runN tab ext25 false 44 [] 2000 [] [] [4, 5, 6] [0, 1] [true, false, false] (cutAt b25 8) (E25_8 v6 h1 x0) (L25_8 v6 h1 x0) = some (cutAt b25 8, E25_8 (v6 + 1) (h1 ++ [g32_0 (List.getD (g24_0 x0 44) (Int.toNat v6) ByteArray.empty)]) (x0), L25_8 (v6 + 1) (h1 ++ [g32_0 (List.getD (g24_0 x0 44) (Int.toNat v6) ByteArray.empty)]) (x0), [Decidable.decide (v6 < (↑(List.length (g24_0 x0 44)) : Int)) = Bool.true, 0 ≤ v6, v6 < (↑(List.length (g24_0 x0 44)) : Int), True, (!g32_1 (List.getD (g24_0 x0 44) (Int.toNat v6) ByteArray.empty)) = Bool.false, True, (!g33_0 (g32_0 (List.getD (g24_0 x0 44) (Int.toNat v6) ByteArray.empty)) (-1000000000000) 1000000000000) = Bool.false, (List.length h1 + 1) * 8 ≤ 140737488355328, InR IntKind.i64 (v6 + 1)]) := by kernel_rfl
theorem p25_6 (v6 : Int) (h1 : List Int) (x0 : ByteArray) : runF tab ext25 false 44 [] 2000 [] tys25 Tryz.f25.results [false] (cutAt b25 8) (E25_8 v6 h1 x0) (L25_8 v6 h1 x0) = some ([Dyn.mk (Ty.sl (Ty.int IntKind.i64)) h1, Dyn.mk Ty.bool Bool.true], [], [Decidable.decide (v6 < (↑(List.length (g24_0 x0 44)) : Int)) = Bool.false]) := by kernel_rfl
theorem snd25 : ∀ n, (∀ (x0 : ByteArray) ds, R25 n x0 ds → ∀ w0 O q, AtV Tryz.prog 25 (PostR ds [] [] q w0 O) 44 w0 O q [] [.code b25] (entE 0 0 sig25 (x0, ())) (entL sig25 (x0, ()))) ∧ (∀ (v6 : Int) (h1 : List Int) (x0 : ByteArray) ds, R25_8 n v6 h1 x0 ds → ∀ w0 O q, AtV Tryz.prog 25 (PostR ds [] [] q w0 O) 44 w0 O q [] (cutAt b25 8) (E25_8 v6 h1 x0) (L25_8 v6 h1 x0)) := by
  intro n
  induction n with
  | zero => exact ⟨fun _ _ h => by simp only [R25] at h, fun _ _ _ _ h => by simp only [R25_8] at h⟩
  | succ n ih =>
  obtain ⟨ih, ih8⟩ := ih
  refine ⟨?_, ?_⟩
  · intro x0 ds h w0 O q
    rw [R25] at h
    by_cases b0 : (ByteArray.toList x0 == ByteArray.toList (ByteArray.mk #[45])) = true
    · rw [if_pos b0] at h
      subst h
      exact AtV.fin Tryz.func25 tabOk ext25Ok mixed (p25_0 x0) ⟨b0, trivial⟩
    · rw [if_neg b0] at h
      replace b0 := Bool.eq_false_iff.2 b0
      obtain ⟨s0, h⟩ := h
      by_cases b1 : (Decidable.decide ((↑(List.length (g24_0 x0 44)) : Int) > 64)) = true
      · rw [if_pos b1] at h
        subst h
        exact AtV.fin Tryz.func25 tabOk ext25Ok mixed (p25_1 x0) ⟨b0, s0, b1, trivial⟩
      · rw [if_neg b1] at h
        replace b1 := Bool.eq_false_iff.2 b1
        exact AtV.runN tabOk ext25Ok mixed (p25_2 x0) ⟨b0, s0, b1, trivial⟩ (ih8 _ _ _ _ h w0 O q)

  · intro v6 h1 x0 ds h w0 O q
    rw [R25_8] at h
    by_cases b0 : (Decidable.decide (v6 < (↑(List.length (g24_0 x0 44)) : Int))) = true
    · rw [if_pos b0] at h
      obtain ⟨s0, s1, h⟩ := h
      by_cases b1 : (!g32_1 (List.getD (g24_0 x0 44) (Int.toNat v6) ByteArray.empty)) = true
      · rw [if_pos b1] at h
        subst h
        exact AtV.fin Tryz.func25 tabOk ext25Ok mixed (p25_3 v6 h1 x0) ⟨b0, s0, s1, trivial, b1, rfl, trivial⟩
      · rw [if_neg b1] at h
        replace b1 := Bool.eq_false_iff.2 b1
        by_cases b2 : (!g33_0 (g32_0 (List.getD (g24_0 x0 44) (Int.toNat v6) ByteArray.empty)) (-1000000000000) 1000000000000) = true
        · rw [if_pos b2] at h
          subst h
          exact AtV.fin Tryz.func25 tabOk ext25Ok mixed (p25_4 v6 h1 x0) ⟨b0, s0, s1, trivial, b1, trivial, b2, trivial⟩
        · rw [if_neg b2] at h
          replace b2 := Bool.eq_false_iff.2 b2
          obtain ⟨s2, h⟩ := h
          obtain ⟨s3, h⟩ := h
          exact AtV.runN tabOk ext25Ok mixed (p25_5 v6 h1 x0) ⟨b0, s0, s1, trivial, b1, trivial, b2, s2, s3, trivial⟩ (ih8 _ _ _ _ h w0 O q)
    · rw [if_neg b0] at h
      replace b0 := Bool.eq_false_iff.2 b0
      subst h
      exact AtV.fin Tryz.func25 tabOk ext25Ok mixed (p25_6 v6 h1 x0) ⟨b0, trivial⟩



def ok25 (w : ByteArray) : Bool := g32_1 w && g33_0 (g32_0 w) (-1000000000000) 1000000000000
/-- The numbers of all words, if each is one. -/
def rl25 : List ByteArray → Option (List Int)
  | [] => some []
  | w :: r => if ok25 w = true then (match rl25 r with | some l => some (g32_0 w :: l) | none => none) else none
def ws25 (x0 : ByteArray) : List ByteArray := g24_0 x0 44
def all25 (x0 : ByteArray) : Option (List Int) := if x0 = ByteArray.mk #[45] then some [] else if (ws25 x0).length > 64 then none else rl25 (ws25 x0)
def g25_0 (x0 : ByteArray) : List Int := (all25 x0).getD []
def g25_1 (x0 : ByteArray) : Bool := (all25 x0).isSome
def P25 (x0 : ByteArray) : Prop := x0.size < 4294967281

theorem run25 (x0 : ByteArray) (hl : (ws25 x0).length ≤ 64) : ∀ (k i : Nat) (h : List Int), i + k = (ws25 x0).length → h.length ≤ i →
    R25_8 (k + 1) (i : Int) h x0 [⟨.sl (.int .i64), ((rl25 ((ws25 x0).drop i)).map (h ++ ·)).getD []⟩, ⟨.bool, (rl25 ((ws25 x0).drop i)).isSome⟩] := by
  have ew : g24_0 x0 44 = ws25 x0 := rfl
  intro k
  induction k with
  | zero =>
    intro i h hi hh
    rw [R25_8, ew, if_neg (by simp only [decide_eq_true_eq]; omega), List.drop_of_length_le (by omega)]
    simp [rl25]
  | succ k ih =>
    intro i h hi hh
    have hlt : i < (ws25 x0).length := by omega
    rw [R25_8, ew, if_pos (by simp only [decide_eq_true_eq]; omega)]
    simp only [Int.toNat_natCast]
    rw [drop_get (ws25 x0) i ByteArray.empty hlt]
    generalize (ws25 x0).getD i ByteArray.empty = w at *
    refine ⟨by omega, by omega, ?_⟩
    cases h1 : g32_1 w with
    | false =>
      rw [if_pos (by rfl)]
      have hk : ok25 w = false := by unfold ok25; rw [h1]; rfl
      simp [rl25, hk]
    | true =>
      rw [if_neg (by simp)]
      cases h2 : g33_0 (g32_0 w) (-1000000000000) 1000000000000 with
      | false =>
        rw [if_pos (by rfl)]
        have hk : ok25 w = false := by unfold ok25; rw [h1, h2]; rfl
        simp [rl25, hk]
      | true =>
        rw [if_neg (by simp)]
        have hk : ok25 w = true := by unfold ok25; rw [h1, h2]; rfl
        refine ⟨by omega, by rw [i64_iff]; omega, ?_⟩
        have e1 : (i : Int) + 1 = ((i + 1 : Nat) : Int) := by omega
        rw [e1]
        have := ih (i + 1) (h ++ [g32_0 w]) (by omega) (by simp; omega)
        rw [rl25, if_pos hk]
        cases hr : rl25 ((ws25 x0).drop (i + 1)) with
        | none => rw [hr] at this; simpa using this
        | some l => rw [hr] at this; simpa using this

theorem top25 (x0 : ByteArray) (hp : P25 x0) : ∃ n, R25 n x0 [⟨.sl (.int .i64), g25_0 x0⟩, ⟨.bool, g25_1 x0⟩] := by
  have ew : g24_0 x0 44 = ws25 x0 := rfl
  refine ⟨((ws25 x0).length + 1) + 1, ?_⟩
  rw [R25, ew]
  unfold g25_0 g25_1 all25
  by_cases h0 : x0 = ByteArray.mk #[45]
  · rw [if_pos ((bytes_eq _ _).2 h0), if_pos h0]; rfl
  · rw [if_neg (fun h => h0 ((bytes_eq _ _).1 h)), if_neg h0]
    refine ⟨⟨hp, by omega, by omega⟩, ?_⟩
    by_cases h1 : (ws25 x0).length > 64
    · rw [if_pos (by simp only [decide_eq_true_eq]; omega), if_pos h1]; rfl
    · rw [if_neg (by simp only [decide_eq_true_eq]; omega), if_neg h1]
      have := run25 x0 (by omega) (ws25 x0).length 0 [] (by omega) (by simp)
      simpa using this

def S25 : Am.Spec := { sig := sig25, pre := fun ⟨x0, _⟩ => P25 x0, res := fun ⟨x0, _⟩ => [⟨.sl (.int .i64), g25_0 x0⟩, ⟨.bool, g25_1 x0⟩] }
theorem con25 : Contract Tryz.prog 25 S25 := contract_of Tryz.func25 hb25 (Nat.le_of_ble_eq_true (by kernel_rfl)) (fun ⟨x0, _⟩ h hwf w0 O q => by
  obtain ⟨n, hn⟩ := top25 x0 h
  exact (snd25 n).1 x0 _ hn w0 O q)

end Go.Proofs.YteojabdeehagnaaGreatDoor

/- Function 34 (spec.l21Day): its runs between cut points. Written by a program of this repo (gen). -/
set_option linter.unusedVariables false
set_option linter.unusedSimpArgs false
set_option maxRecDepth 100000
namespace Go.Proofs.YteojabdeehagnaaGreatDoor
open Go Go.Am Go.Proofs
def ext34 : Ext := [(33, S33)]
theorem call34_33 : Callable Tryz.prog 33 := ⟨Tryz.f33, Tryz.func33, by kernel_rfl, by kernel_rfl⟩
theorem ext34Ok : ExtOk Tryz.prog ext34 := ⟨⟨call34_33, con33⟩, trivial⟩
/-! Function 34. -/
noncomputable def b34 : Code := bodyOf Tryz.f34
theorem hb34 : Tryz.f34.body = some b34 := by kernel_rfl
def sig34 : List AT := [AT.v (Ty.int IntKind.i64)]
def tys34 : List Ty := [Ty.bool]
def P34 (x0 : Int) : Prop := True
def g34_0 (x0 : Int) : Bool := g33_0 x0 0 100000
theorem p34_0 (x0 : Int) : runF tab ext34 false 5 [] 2000 [] tys34 Tryz.f34.results [] [.code b34] (entE 0 0 sig34 (x0, ())) (entL sig34 (x0, ())) = some ([Dyn.mk Ty.bool (g33_0 x0 0 100000)], [], [True]) := by kernel_rfl
theorem at34 (x0 : Int) (h : P34 x0) (w0 : World) (O : List Nat) (q : Nat → Value) : AtV Tryz.prog 34 (PostR [⟨Ty.bool, g34_0 x0⟩] [] [] q w0 O) 5 w0 O q [] [.code b34] (entE 0 0 sig34 (x0, ())) (entL sig34 (x0, ())) := by
  unfold P34 at h
  unfold g34_0
  exact AtV.fin Tryz.func34 tabOk ext34Ok mixed (p34_0 x0) ⟨trivial, trivial⟩

def S34 : Am.Spec := { sig := sig34, pre := fun ⟨x0, _⟩ => P34 x0, res := fun ⟨x0, _⟩ => [⟨Ty.bool, g34_0 x0⟩] }
theorem con34 : Contract Tryz.prog 34 S34 := contract_of Tryz.func34 hb34 (Nat.le_of_ble_eq_true (by kernel_rfl)) (fun ⟨x0, _⟩ h _ w0 O q => at34 x0 h w0 O q)


end Go.Proofs.YteojabdeehagnaaGreatDoor

/- Function 35 (spec.l21Count): its runs between cut points. Written by a program of this repo (gen). -/
set_option linter.unusedVariables false
set_option linter.unusedSimpArgs false
set_option maxRecDepth 100000
namespace Go.Proofs.YteojabdeehagnaaGreatDoor
open Go Go.Am Go.Proofs
def ext35 : Ext := [(33, S33)]
theorem call35_33 : Callable Tryz.prog 33 := ⟨Tryz.f33, Tryz.func33, by kernel_rfl, by kernel_rfl⟩
theorem ext35Ok : ExtOk Tryz.prog ext35 := ⟨⟨call35_33, con33⟩, trivial⟩
/-! Function 35. -/
noncomputable def b35 : Code := bodyOf Tryz.f35
theorem hb35 : Tryz.f35.body = some b35 := by kernel_rfl
def sig35 : List AT := [AT.v (Ty.int IntKind.i64)]
def tys35 : List Ty := [Ty.bool]
def P35 (x0 : Int) : Prop := True
def g35_0 (x0 : Int) : Bool := g33_0 x0 0 1000000
theorem p35_0 (x0 : Int) : runF tab ext35 false 5 [] 2000 [] tys35 Tryz.f35.results [] [.code b35] (entE 0 0 sig35 (x0, ())) (entL sig35 (x0, ())) = some ([Dyn.mk Ty.bool (g33_0 x0 0 1000000)], [], [True]) := by kernel_rfl
theorem at35 (x0 : Int) (h : P35 x0) (w0 : World) (O : List Nat) (q : Nat → Value) : AtV Tryz.prog 35 (PostR [⟨Ty.bool, g35_0 x0⟩] [] [] q w0 O) 5 w0 O q [] [.code b35] (entE 0 0 sig35 (x0, ())) (entL sig35 (x0, ())) := by
  unfold P35 at h
  unfold g35_0
  exact AtV.fin Tryz.func35 tabOk ext35Ok mixed (p35_0 x0) ⟨trivial, trivial⟩

def S35 : Am.Spec := { sig := sig35, pre := fun ⟨x0, _⟩ => P35 x0, res := fun ⟨x0, _⟩ => [⟨Ty.bool, g35_0 x0⟩] }
theorem con35 : Contract Tryz.prog 35 S35 := contract_of Tryz.func35 hb35 (Nat.le_of_ble_eq_true (by kernel_rfl)) (fun ⟨x0, _⟩ h _ w0 O q => at35 x0 h w0 O q)


end Go.Proofs.YteojabdeehagnaaGreatDoor

/- Function 26 (spec.l21One): its runs between cut points. Written by a program of this repo (gen). -/
set_option linter.unusedVariables false
set_option linter.unusedSimpArgs false
set_option maxRecDepth 100000
namespace Go.Proofs.YteojabdeehagnaaGreatDoor
open Go Go.Am Go.Proofs
def ext26 : Ext := [(31, S31), (33, S33), (34, S34), (35, S35)]
theorem call26_31 : Callable Tryz.prog 31 := ⟨Tryz.f31, Tryz.func31, by kernel_rfl, by kernel_rfl⟩
theorem call26_33 : Callable Tryz.prog 33 := ⟨Tryz.f33, Tryz.func33, by kernel_rfl, by kernel_rfl⟩
theorem call26_34 : Callable Tryz.prog 34 := ⟨Tryz.f34, Tryz.func34, by kernel_rfl, by kernel_rfl⟩
theorem call26_35 : Callable Tryz.prog 35 := ⟨Tryz.f35, Tryz.func35, by kernel_rfl, by kernel_rfl⟩
theorem ext26Ok : ExtOk Tryz.prog ext26 := ⟨⟨call26_31, con31⟩, ⟨call26_33, con33⟩, ⟨call26_34, con34⟩, ⟨call26_35, con35⟩, trivial⟩
/-! Function 26. -/
noncomputable def b26 : Code := bodyOf Tryz.f26
theorem hb26 : Tryz.f26.body = some b26 := by kernel_rfl
def sig26 : List AT := [AT.p (Ty.cons Ty.str (Ty.cons (Ty.int IntKind.i64) (Ty.cons (Ty.int IntKind.i64) (Ty.cons (Ty.int IntKind.i64) (Ty.cons (Ty.int IntKind.i64) Ty.unit)))))]
def tys26 : List Ty := [Ty.bool]
def P26 (x0 : ByteArray × Int × Int × Int × Int × Unit) : Prop := True
def g26_0 (x0 : ByteArray × Int × Int × Int × Int × Unit) : Bool := (if (g31_0 (Prod.fst x0)) = true then (if (g33_0 (Prod.fst (Prod.snd x0)) 1 100000) = true then (if (g33_0 (Prod.fst (Prod.snd (Prod.snd x0))) 1 1000000) = true then (if (g34_0 (Prod.fst (Prod.snd (Prod.snd (Prod.snd x0))))) = true then g35_0 (Prod.fst (Prod.snd (Prod.snd (Prod.snd (Prod.snd x0))))) else Bool.false) else Bool.false) else Bool.false) else Bool.false)
theorem p26_0 (x0 : ByteArray × Int × Int × Int × Int × Unit) : runF tab ext26 false 36 [] 2000 [] tys26 Tryz.f26.results [true, true, true, true] [.code b26] (entE 0 0 sig26 (x0, ())) (entL sig26 (x0, ())) = some ([Dyn.mk Ty.bool (g35_0 (Prod.fst (Prod.snd (Prod.snd (Prod.snd (Prod.snd x0))))))], [], [True, g31_0 (Prod.fst x0) = Bool.true, True, g33_0 (Prod.fst (Prod.snd x0)) 1 100000 = Bool.true, True, g33_0 (Prod.fst (Prod.snd (Prod.snd x0))) 1 1000000 = Bool.true, True, g34_0 (Prod.fst (Prod.snd (Prod.snd (Prod.snd x0)))) = Bool.true, True]) := by kernel_rfl
theorem p26_1 (x0 : ByteArray × Int × Int × Int × Int × Unit) : runF tab ext26 false 36 [] 2000 [] tys26 Tryz.f26.results [true, true, true, false] [.code b26] (entE 0 0 sig26 (x0, ())) (entL sig26 (x0, ())) = some ([Dyn.mk Ty.bool Bool.false], [], [True, g31_0 (Prod.fst x0) = Bool.true, True, g33_0 (Prod.fst (Prod.snd x0)) 1 100000 = Bool.true, True, g33_0 (Prod.fst (Prod.snd (Prod.snd x0))) 1 1000000 = Bool.true, True, g34_0 (Prod.fst (Prod.snd (Prod.snd (Prod.snd x0)))) = Bool.false]) := by kernel_rfl
theorem p26_2 (x0 : ByteArray × Int × Int × Int × Int × Unit) : runF tab ext26 false 36 [] 2000 [] tys26 Tryz.f26.results [true, true, false, false] [.code b26] (entE 0 0 sig26 (x0, ())) (entL sig26 (x0, ())) = some ([Dyn.mk Ty.bool Bool.false], [], [True, g31_0 (Prod.fst x0) = Bool.true, True, g33_0 (Prod.fst (Prod.snd x0)) 1 100000 = Bool.true, True, g33_0 (Prod.fst (Prod.snd (Prod.snd x0))) 1 1000000 = Bool.false, Bool.false = Bool.false]) := by kernel_rfl
theorem p26_3 (x0 : ByteArray × Int × Int × Int × Int × Unit) : runF tab ext26 false 36 [] 2000 [] tys26 Tryz.f26.results [true, false, false, false] [.code b26] (entE 0 0 sig26 (x0, ())) (entL sig26 (x0, ())) = some ([Dyn.mk Ty.bool Bool.false], [], [True, g31_0 (Prod.fst x0) = Bool.true, True, g33_0 (Prod.fst (Prod.snd x0)) 1 100000 = Bool.false, Bool.false = Bool.false, Bool.false = Bool.false]) := by kernel_rfl
theorem p26_4 (x0 : ByteArray × Int × Int × Int × Int × Unit) : runF tab ext26 false 36 [] 2000 [] tys26 Tryz.f26.results [false, false, false, false] [.code b26] (entE 0 0 sig26 (x0, ())) (entL sig26 (x0, ())) = some ([Dyn.mk Ty.bool Bool.false], [], [True, g31_0 (Prod.fst x0) = Bool.false, Bool.false = Bool.false, Bool.false = Bool.false, Bool.false = Bool.false]) := by kernel_rfl
theorem at26 (x0 : ByteArray × Int × Int × Int × Int × Unit) (h : P26 x0) (w0 : World) (O : List Nat) (q : Nat → Value) : AtV Tryz.prog 26 (PostR [⟨Ty.bool, g26_0 x0⟩] [] [] q w0 O) 36 w0 O q [] [.code b26] (entE 0 0 sig26 (x0, ())) (entL sig26 (x0, ())) := by
  unfold P26 at h
  unfold g26_0
  by_cases b0 : (g31_0 (Prod.fst x0)) = true
  · try simp only [if_pos b0] at h ⊢
    by_cases b1 : (g33_0 (Prod.fst (Prod.snd x0)) 1 100000) = true
    · try simp only [if_pos b1] at h ⊢
      by_cases b2 : (g33_0 (Prod.fst (Prod.snd (Prod.snd x0))) 1 1000000) = true
      · try simp only [if_pos b2] at h ⊢
        by_cases b3 : (g34_0 (Prod.fst (Prod.snd (Prod.snd (Prod.snd x0))))) = true
        · try simp only [if_pos b3] at h ⊢
          exact AtV.fin Tryz.func26 tabOk ext26Ok mixed (p26_0 x0) ⟨trivial, b0, trivial, b1, trivial, b2, trivial, b3, trivial, trivial⟩
        · try simp only [if_neg b3] at h ⊢
          replace b3 := Bool.eq_false_iff.2 b3
          exact AtV.fin Tryz.func26 tabOk ext26Ok mixed (p26_1 x0) ⟨trivial, b0, trivial, b1, trivial, b2, trivial, b3, trivial⟩
      · try simp only [if_neg b2] at h ⊢
        replace b2 := Bool.eq_false_iff.2 b2
        exact AtV.fin Tryz.func26 tabOk ext26Ok mixed (p26_2 x0) ⟨trivial, b0, trivial, b1, trivial, b2, rfl, trivial⟩
    · try simp only [if_neg b1] at h ⊢
      replace b1 := Bool.eq_false_iff.2 b1
      exact AtV.fin Tryz.func26 tabOk ext26Ok mixed (p26_3 x0) ⟨trivial, b0, trivial, b1, rfl, rfl, trivial⟩
  · try simp only [if_neg b0] at h ⊢
    replace b0 := Bool.eq_false_iff.2 b0
    exact AtV.fin Tryz.func26 tabOk ext26Ok mixed (p26_4 x0) ⟨trivial, b0, rfl, rfl, rfl, trivial⟩

def S26 : Am.Spec := { sig := sig26, pre := fun ⟨x0, _⟩ => P26 x0, res := fun ⟨x0, _⟩ => [⟨Ty.bool, g26_0 x0⟩] }
theorem con26 : Contract Tryz.prog 26 S26 := contract_of Tryz.func26 hb26 (Nat.le_of_ble_eq_true (by kernel_rfl)) (fun ⟨x0, _⟩ h _ w0 O q => at26 x0 h w0 O q)


end Go.Proofs.YteojabdeehagnaaGreatDoor

/- Function 15 (spec.ReadCheck): its runs between cut points. Written by a program of this repo (gen). -/
set_option linter.unusedVariables false
set_option linter.unusedSimpArgs false
set_option maxRecDepth 100000
namespace Go.Proofs.YteojabdeehagnaaGreatDoor
open Go Go.Am Go.Proofs
def ext15 : Ext := [(24, S24), (25, S25), (26, S26)]
theorem call15_24 : Callable Tryz.prog 24 := ⟨Tryz.f24, Tryz.func24, by kernel_rfl, by kernel_rfl⟩
theorem call15_25 : Callable Tryz.prog 25 := ⟨Tryz.f25, Tryz.func25, by kernel_rfl, by kernel_rfl⟩
theorem call15_26 : Callable Tryz.prog 26 := ⟨Tryz.f26, Tryz.func26, by kernel_rfl, by kernel_rfl⟩
theorem ext15Ok : ExtOk Tryz.prog ext15 := ⟨⟨call15_24, con24⟩, ⟨call15_25, con25⟩, ⟨call15_26, con26⟩, trivial⟩
/-! Function 15. -/
noncomputable def b15 : Code := bodyOf Tryz.f15
theorem hb15 : Tryz.f15.body = some b15 := by kernel_rfl
def sig15 : List AT := [AT.v (Ty.str)]
def tys15 : List Ty := [Ty.cons Ty.str (Ty.cons (Ty.int IntKind.i64) (Ty.cons (Ty.int IntKind.i64) (Ty.cons (Ty.int IntKind.i64) (Ty.cons (Ty.int IntKind.i64) Ty.unit)))), Ty.bool]
def P15 (x0 : ByteArray) : Prop := ((P24 x0 32) ∧ (if ((↑(List.length (g24_0 x0 32)) : Int) != 2) = true then True else ((1 < (↑(List.length (g24_0 x0 32)) : Int)) ∧ ((P25 (List.getD (g24_0 x0 32) 1 ByteArray.empty)) ∧ (if (!g25_1 (List.getD (g24_0 x0 32) 1 ByteArray.empty)) = true then True else (if ((↑(List.length (g25_0 (List.getD (g24_0 x0 32) 1 ByteArray.empty))) : Int) != 4) = true then True else ((0 < (↑(List.length (g24_0 x0 32)) : Int)) ∧ ((0 < (↑(List.length (g25_0 (List.getD (g24_0 x0 32) 1 ByteArray.empty))) : Int)) ∧ ((1 < (↑(List.length (g25_0 (List.getD (g24_0 x0 32) 1 ByteArray.empty))) : Int)) ∧ ((2 < (↑(List.length (g25_0 (List.getD (g24_0 x0 32) 1 ByteArray.empty))) : Int)) ∧ ((3 < (↑(List.length (g25_0 (List.getD (g24_0 x0 32) 1 ByteArray.empty))) : Int)) ∧ True)))))))))))
def g15_0 (x0 : ByteArray) : ByteArray × Int × Int × Int × Int × Unit := (if ((↑(List.length (g24_0 x0 32)) : Int) != 2) = true then (ByteArray.empty, 0, 0, 0, 0, ()) else (if (!g25_1 (List.getD (g24_0 x0 32) 1 ByteArray.empty)) = true then (ByteArray.empty, 0, 0, 0, 0, ()) else (if ((↑(List.length (g25_0 (List.getD (g24_0 x0 32) 1 ByteArray.empty))) : Int) != 4) = true then (ByteArray.empty, 0, 0, 0, 0, ()) else (if (!g26_0 (List.getD (g24_0 x0 32) 0 ByteArray.empty, List.getD (g25_0 (List.getD (g24_0 x0 32) 1 ByteArray.empty)) 0 0, List.getD (g25_0 (List.getD (g24_0 x0 32) 1 ByteArray.empty)) 1 0, List.getD (g25_0 (List.getD (g24_0 x0 32) 1 ByteArray.empty)) 2 0, List.getD (g25_0 (List.getD (g24_0 x0 32) 1 ByteArray.empty)) 3 0, ())) = true then (ByteArray.empty, 0, 0, 0, 0, ()) else (List.getD (g24_0 x0 32) 0 ByteArray.empty, List.getD (g25_0 (List.getD (g24_0 x0 32) 1 ByteArray.empty)) 0 0, List.getD (g25_0 (List.getD (g24_0 x0 32) 1 ByteArray.empty)) 1 0, List.getD (g25_0 (List.getD (g24_0 x0 32) 1 ByteArray.empty)) 2 0, List.getD (g25_0 (List.getD (g24_0 x0 32) 1 ByteArray.empty)) 3 0, ())))))
def g15_1 (x0 : ByteArray) : Bool := (if ((↑(List.length (g24_0 x0 32)) : Int) != 2) = true then Bool.false else (if (!g25_1 (List.getD (g24_0 x0 32) 1 ByteArray.empty)) = true then Bool.false else (if ((↑(List.length (g25_0 (List.getD (g24_0 x0 32) 1 ByteArray.empty))) : Int) != 4) = true then Bool.false else (if (!g26_0 (List.getD (g24_0 x0 32) 0 ByteArray.empty, List.getD (g25_0 (List.getD (g24_0 x0 32) 1 ByteArray.empty)) 0 0, List.getD (g25_0 (List.getD (g24_0 x0 32) 1 ByteArray.empty)) 1 0, List.getD (g25_0 (List.getD (g24_0 x0 32) 1 ByteArray.empty)) 2 0, List.getD (g25_0 (List.getD (g24_0 x0 32) 1 ByteArray.empty)) 3 0, ())) = true then Bool.false else Bool.true))))
theorem p15_0 (x0 : ByteArray) : runF tab ext15 false 49 [] 2000 [] tys15 Tryz.f15.results [true] [.code b15] (entE 0 0 sig15 (x0, ())) (entL sig15 (x0, ())) = some ([Dyn.mk (Ty.cons Ty.str (Ty.cons (Ty.int IntKind.i64) (Ty.cons (Ty.int IntKind.i64) (Ty.cons (Ty.int IntKind.i64) (Ty.cons (Ty.int IntKind.i64) Ty.unit))))) (ByteArray.empty, 0, 0, 0, 0, ()), Dyn.mk Ty.bool Bool.false], [], [P24 x0 32, ((↑(List.length (g24_0 x0 32)) : Int) != 2) = Bool.true]) := by kernel_rfl
theorem p15_1 (x0 : ByteArray) : runF tab ext15 false 49 [] 2000 [] tys15 Tryz.f15.results [false, true, true] [.code b15] (entE 0 0 sig15 (x0, ())) (entL sig15 (x0, ())) = some ([Dyn.mk (Ty.cons Ty.str (Ty.cons (Ty.int IntKind.i64) (Ty.cons (Ty.int IntKind.i64) (Ty.cons (Ty.int IntKind.i64) (Ty.cons (Ty.int IntKind.i64) Ty.unit))))) (ByteArray.empty, 0, 0, 0, 0, ()), Dyn.mk Ty.bool Bool.false], [], [P24 x0 32, ((↑(List.length (g24_0 x0 32)) : Int) != 2) = Bool.false, (0 : Int) ≤ (1 : Int), 1 < (↑(List.length (g24_0 x0 32)) : Int), P25 (List.getD (g24_0 x0 32) 1 ByteArray.empty), (!g25_1 (List.getD (g24_0 x0 32) 1 ByteArray.empty)) = Bool.true, Bool.true = Bool.true]) := by kernel_rfl
theorem p15_2 (x0 : ByteArray) : runF tab ext15 false 49 [] 2000 [] tys15 Tryz.f15.results [false, false, true] [.code b15] (entE 0 0 sig15 (x0, ())) (entL sig15 (x0, ())) = some ([Dyn.mk (Ty.cons Ty.str (Ty.cons (Ty.int IntKind.i64) (Ty.cons (Ty.int IntKind.i64) (Ty.cons (Ty.int IntKind.i64) (Ty.cons (Ty.int IntKind.i64) Ty.unit))))) (ByteArray.empty, 0, 0, 0, 0, ()), Dyn.mk Ty.bool Bool.false], [], [P24 x0 32, ((↑(List.length (g24_0 x0 32)) : Int) != 2) = Bool.false, (0 : Int) ≤ (1 : Int), 1 < (↑(List.length (g24_0 x0 32)) : Int), P25 (List.getD (g24_0 x0 32) 1 ByteArray.empty), (!g25_1 (List.getD (g24_0 x0 32) 1 ByteArray.empty)) = Bool.false, ((↑(List.length (g25_0 (List.getD (g24_0 x0 32) 1 ByteArray.empty))) : Int) != 4) = Bool.true]) := by kernel_rfl
theorem p15_3 (x0 : ByteArray) : runF tab ext15 false 49 [] 2000 [] tys15 Tryz.f15.results [false, false, false, true] [.code b15] (entE 0 0 sig15 (x0, ())) (entL sig15 (x0, ())) = some ([Dyn.mk (Ty.cons Ty.str (Ty.cons (Ty.int IntKind.i64) (Ty.cons (Ty.int IntKind.i64) (Ty.cons (Ty.int IntKind.i64) (Ty.cons (Ty.int IntKind.i64) Ty.unit))))) (ByteArray.empty, 0, 0, 0, 0, ()), Dyn.mk Ty.bool Bool.false], [], [P24 x0 32, ((↑(List.length (g24_0 x0 32)) : Int) != 2) = Bool.false, (0 : Int) ≤ (1 : Int), 1 < (↑(List.length (g24_0 x0 32)) : Int), P25 (List.getD (g24_0 x0 32) 1 ByteArray.empty), (!g25_1 (List.getD (g24_0 x0 32) 1 ByteArray.empty)) = Bool.false, ((↑(List.length (g25_0 (List.getD (g24_0 x0 32) 1 ByteArray.empty))) : Int) != 4) = Bool.false, (0 : Int) ≤ (0 : Int), 0 < (↑(List.length (g24_0 x0 32)) : Int), (0 : Int) ≤ (0 : Int), 0 < (↑(List.length (g25_0 (List.getD (g24_0 x0 32) 1 ByteArray.empty))) : Int), (0 : Int) ≤ (1 : Int), 1 < (↑(List.length (g25_0 (List.getD (g24_0 x0 32) 1 ByteArray.empty))) : Int), (0 : Int) ≤ (2 : Int), 2 < (↑(List.length (g25_0 (List.getD (g24_0 x0 32) 1 ByteArray.empty))) : Int), (0 : Int) ≤ (3 : Int), 3 < (↑(List.length (g25_0 (List.getD (g24_0 x0 32) 1 ByteArray.empty))) : Int), True, (!g26_0 (List.getD (g24_0 x0 32) 0 ByteArray.empty, List.getD (g25_0 (List.getD (g24_0 x0 32) 1 ByteArray.empty)) 0 0, List.getD (g25_0 (List.getD (g24_0 x0 32) 1 ByteArray.empty)) 1 0, List.getD (g25_0 (List.getD (g24_0 x0 32) 1 ByteArray.empty)) 2 0, List.getD (g25_0 (List.getD (g24_0 x0 32) 1 ByteArray.empty)) 3 0, ())) = Bool.true]) := by kernel_rfl
theorem p15_4 (x0 : ByteArray) : runF tab ext15 false 49 [] 2000 [] tys15 Tryz.f15.results [false, false, false, false] [.code b15] (entE 0 0 sig15 (x0, ())) (entL sig15 (x0, ())) = some ([Dyn.mk (Ty.cons Ty.str (Ty.cons (Ty.int IntKind.i64) (Ty.cons (Ty.int IntKind.i64) (Ty.cons (Ty.int IntKind.i64) (Ty.cons (Ty.int IntKind.i64) Ty.unit))))) (List.getD (g24_0 x0 32) 0 ByteArray.empty, List.getD (g25_0 (List.getD (g24_0 x0 32) 1 ByteArray.empty)) 0 0, List.getD (g25_0 (List.getD (g24_0 x0 32) 1 ByteArray.empty)) 1 0, List.getD (g25_0 (List.getD (g24_0 x0 32) 1 ByteArray.empty)) 2 0, List.getD (g25_0 (List.getD (g24_0 x0 32) 1 ByteArray.empty)) 3 0, ()), Dyn.mk Ty.bool Bool.true], [], [P24 x0 32, ((↑(List.length (g24_0 x0 32)) : Int) != 2) = Bool.false, (0 : Int) ≤ (1 : Int), 1 < (↑(List.length (g24_0 x0 32)) : Int), P25 (List.getD (g24_0 x0 32) 1 ByteArray.empty), (!g25_1 (List.getD (g24_0 x0 32) 1 ByteArray.empty)) = Bool.false, ((↑(List.length (g25_0 (List.getD (g24_0 x0 32) 1 ByteArray.empty))) : Int) != 4) = Bool.false, (0 : Int) ≤ (0 : Int), 0 < (↑(List.length (g24_0 x0 32)) : Int), (0 : Int) ≤ (0 : Int), 0 < (↑(List.length (g25_0 (List.getD (g24_0 x0 32) 1 ByteArray.empty))) : Int), (0 : Int) ≤ (1 : Int), 1 < (↑(List.length (g25_0 (List.getD (g24_0 x0 32) 1 ByteArray.empty))) : Int), (0 : Int) ≤ (2 : Int), 2 < (↑(List.length (g25_0 (List.getD (g24_0 x0 32) 1 ByteArray.empty))) : Int), (0 : Int) ≤ (3 : Int), 3 < (↑(List.length (g25_0 (List.getD (g24_0 x0 32) 1 ByteArray.empty))) : Int), True, (!g26_0 (List.getD (g24_0 x0 32) 0 ByteArray.empty, List.getD (g25_0 (List.getD (g24_0 x0 32) 1 ByteArray.empty)) 0 0, List.getD (g25_0 (List.getD (g24_0 x0 32) 1 ByteArray.empty)) 1 0, List.getD (g25_0 (List.getD (g24_0 x0 32) 1 ByteArray.empty)) 2 0, List.getD (g25_0 (List.getD (g24_0 x0 32) 1 ByteArray.empty)) 3 0, ())) = Bool.false]) := by kernel_rfl
theorem at15 (x0 : ByteArray) (h : P15 x0) (w0 : World) (O : List Nat) (q : Nat → Value) : AtV Tryz.prog 15 (PostR [⟨Ty.cons Ty.str (Ty.cons (Ty.int IntKind.i64) (Ty.cons (Ty.int IntKind.i64) (Ty.cons (Ty.int IntKind.i64) (Ty.cons (Ty.int IntKind.i64) Ty.unit)))), g15_0 x0⟩, ⟨Ty.bool, g15_1 x0⟩] [] [] q w0 O) 49 w0 O q [] [.code b15] (entE 0 0 sig15 (x0, ())) (entL sig15 (x0, ())) := by
  unfold P15 at h
  unfold g15_0 g15_1
  obtain ⟨s0, h⟩ := h
  by_cases b0 : ((↑(List.length (g24_0 x0 32)) : Int) != 2) = true
  · try simp only [if_pos b0] at h ⊢
    exact AtV.fin Tryz.func15 tabOk ext15Ok mixed (p15_0 x0) ⟨s0, b0, trivial⟩
  · try simp only [if_neg b0] at h ⊢
    replace b0 := Bool.eq_false_iff.2 b0
    obtain ⟨s1, h⟩ := h
    obtain ⟨s2, h⟩ := h
    by_cases b1 : (!g25_1 (List.getD (g24_0 x0 32) 1 ByteArray.empty)) = true
    · try simp only [if_pos b1] at h ⊢
      exact AtV.fin Tryz.func15 tabOk ext15Ok mixed (p15_1 x0) ⟨s0, b0, (by decide), s1, s2, b1, rfl, trivial⟩
    · try simp only [if_neg b1] at h ⊢
      replace b1 := Bool.eq_false_iff.2 b1
      by_cases b2 : ((↑(List.length (g25_0 (List.getD (g24_0 x0 32) 1 ByteArray.empty))) : Int) != 4) = true
      · try simp only [if_pos b2] at h ⊢
        exact AtV.fin Tryz.func15 tabOk ext15Ok mixed (p15_2 x0) ⟨s0, b0, (by decide), s1, s2, b1, b2, trivial⟩
      · try simp only [if_neg b2] at h ⊢
        replace b2 := Bool.eq_false_iff.2 b2
        obtain ⟨s3, h⟩ := h
        obtain ⟨s4, h⟩ := h
        obtain ⟨s5, h⟩ := h
        obtain ⟨s6, h⟩ := h
        obtain ⟨s7, h⟩ := h
        by_cases b3 : (!g26_0 (List.getD (g24_0 x0 32) 0 ByteArray.empty, List.getD (g25_0 (List.getD (g24_0 x0 32) 1 ByteArray.empty)) 0 0, List.getD (g25_0 (List.getD (g24_0 x0 32) 1 ByteArray.empty)) 1 0, List.getD (g25_0 (List.getD (g24_0 x0 32) 1 ByteArray.empty)) 2 0, List.getD (g25_0 (List.getD (g24_0 x0 32) 1 ByteArray.empty)) 3 0, ())) = true
        · try simp only [if_pos b3] at h ⊢
          exact AtV.fin Tryz.func15 tabOk ext15Ok mixed (p15_3 x0) ⟨s0, b0, (by decide), s1, s2, b1, b2, (by decide), s3, (by decide), s4, (by decide), s5, (by decide), s6, (by decide), s7, trivial, b3, trivial⟩
        · try simp only [if_neg b3] at h ⊢
          replace b3 := Bool.eq_false_iff.2 b3
          exact AtV.fin Tryz.func15 tabOk ext15Ok mixed (p15_4 x0) ⟨s0, b0, (by decide), s1, s2, b1, b2, (by decide), s3, (by decide), s4, (by decide), s5, (by decide), s6, (by decide), s7, trivial, b3, trivial⟩

def S15 : Am.Spec := { sig := sig15, pre := fun ⟨x0, _⟩ => P15 x0, res := fun ⟨x0, _⟩ => [⟨Ty.cons Ty.str (Ty.cons (Ty.int IntKind.i64) (Ty.cons (Ty.int IntKind.i64) (Ty.cons (Ty.int IntKind.i64) (Ty.cons (Ty.int IntKind.i64) Ty.unit)))), g15_0 x0⟩, ⟨Ty.bool, g15_1 x0⟩] }
theorem con15 : Contract Tryz.prog 15 S15 := contract_of Tryz.func15 hb15 (Nat.le_of_ble_eq_true (by kernel_rfl)) (fun ⟨x0, _⟩ h _ w0 O q => at15 x0 h w0 O q)


end Go.Proofs.YteojabdeehagnaaGreatDoor

/- Function 5 (spec.ChecksOfBlocks): its runs between cut points. Written by a program of this repo (gen). -/
set_option linter.unusedVariables false
set_option linter.unusedSimpArgs false
set_option maxRecDepth 100000
namespace Go.Proofs.YteojabdeehagnaaGreatDoor
open Go Go.Am Go.Proofs
def ext5 : Ext := [(14, S14), (15, S15)]
theorem call5_14 : Callable Tryz.prog 14 := ⟨Tryz.f14, Tryz.func14, by kernel_rfl, by kernel_rfl⟩
theorem call5_15 : Callable Tryz.prog 15 := ⟨Tryz.f15, Tryz.func15, by kernel_rfl, by kernel_rfl⟩
theorem ext5Ok : ExtOk Tryz.prog ext5 := ⟨⟨call5_14, con14⟩, ⟨call5_15, con15⟩, trivial⟩
/-! Function 5. -/
noncomputable def b5 : Code := bodyOf Tryz.f5
theorem hb5 : Tryz.f5.body = some b5 := by kernel_rfl
def sig5 : List AT := [AT.v (Ty.sl (Ty.cons Ty.str (Ty.cons Ty.str (Ty.cons Ty.str Ty.unit))))]
def tys5 : List Ty := [Ty.sl (Ty.cons Ty.str (Ty.cons (Ty.int IntKind.i64) (Ty.cons (Ty.int IntKind.i64) (Ty.cons (Ty.int IntKind.i64) (Ty.cons (Ty.int IntKind.i64) Ty.unit))))), Ty.int IntKind.i64]
def E5_5 (v5 : Int) (h0 : List (ByteArray × Int × Int × Int × Int × Unit)) (x0 : List (ByteArray × ByteArray × ByteArray × Unit)) : Env := [(0, PV.a (Atom.sl (Ty.cons Ty.str (Ty.cons Ty.str (Ty.cons Ty.str Ty.unit))) x0)), (4, PV.a (Atom.osl 0 Option.none)), (5, PV.a (Atom.val (Value.int IntKind.i64 v5)))]
def L5_5 (v5 : Int) (h0 : List (ByteArray × Int × Int × Int × Int × Unit)) (x0 : List (ByteArray × ByteArray × ByteArray × Unit)) : Heap := [Option.some (Arr.mk (Ty.cons Ty.str (Ty.cons (Ty.int IntKind.i64) (Ty.cons (Ty.int IntKind.i64) (Ty.cons (Ty.int IntKind.i64) (Ty.cons (Ty.int IntKind.i64) Ty.unit))))) h0 Bool.false)]
mutual
def R5 : Nat → List (ByteArray × ByteArray × ByteArray × Unit) → List Dyn → Prop
  | 0, _, _ => False
  | n + 1, x0, ds => (if (!g14_0 x0) = true then (ds = [Dyn.mk (Ty.sl (Ty.cons Ty.str (Ty.cons (Ty.int IntKind.i64) (Ty.cons (Ty.int IntKind.i64) (Ty.cons (Ty.int IntKind.i64) (Ty.cons (Ty.int IntKind.i64) Ty.unit)))))) [], Dyn.mk (Ty.int IntKind.i64) 1]) else (R5_5 n (0) ([]) (x0) ds))
def R5_5 : Nat → Int → List (ByteArray × Int × Int × Int × Int × Unit) → List (ByteArray × ByteArray × ByteArray × Unit) → List Dyn → Prop
  | 0, _, _, _, _ => False
  | n + 1, v5, h0, x0, ds => (if (Decidable.decide (v5 < (↑(List.length x0) : Int))) = true then ((0 ≤ v5) ∧ (v5 < (↑(List.length x0) : Int)) ∧ (if (!ByteArray.toList (Prod.fst (List.getD x0 (Int.toNat v5) (ByteArray.empty, ByteArray.empty, ByteArray.empty, ()))) == ByteArray.toList (ByteArray.mk #[99, 104, 101, 99, 107])) = true then ((InR IntKind.i64 (v5 + 1)) ∧ (R5_5 n (v5 + 1) (h0) (x0) ds)) else ((0 ≤ v5) ∧ (v5 < (↑(List.length x0) : Int)) ∧ ((P15 (Prod.fst (Prod.snd (Prod.snd (List.getD x0 (Int.toNat v5) (ByteArray.empty, ByteArray.empty, ByteArray.empty, ())))))) ∧ (if (!g15_1 (Prod.fst (Prod.snd (Prod.snd (List.getD x0 (Int.toNat v5) (ByteArray.empty, ByteArray.empty, ByteArray.empty, ())))))) = true then (ds = [Dyn.mk (Ty.sl (Ty.cons Ty.str (Ty.cons (Ty.int IntKind.i64) (Ty.cons (Ty.int IntKind.i64) (Ty.cons (Ty.int IntKind.i64) (Ty.cons (Ty.int IntKind.i64) Ty.unit)))))) [], Dyn.mk (Ty.int IntKind.i64) 9]) else ((0 ≤ v5) ∧ (v5 < (↑(List.length x0) : Int)) ∧ (if (!ByteArray.toList (Prod.fst (g15_0 (Prod.fst (Prod.snd (Prod.snd (List.getD x0 (Int.toNat v5) (ByteArray.empty, ByteArray.empty, ByteArray.empty, ()))))))) == ByteArray.toList (Prod.fst (Prod.snd (List.getD x0 (Int.toNat v5) (ByteArray.empty, ByteArray.empty, ByteArray.empty, ()))))) = true then (ds = [Dyn.mk (Ty.sl (Ty.cons Ty.str (Ty.cons (Ty.int IntKind.i64) (Ty.cons (Ty.int IntKind.i64) (Ty.cons (Ty.int IntKind.i64) (Ty.cons (Ty.int IntKind.i64) Ty.unit)))))) [], Dyn.mk (Ty.int IntKind.i64) 6]) else (((List.length h0 + 1) * 48 ≤ 140737488355328) ∧ ((InR IntKind.i64 (v5 + 1)) ∧ (R5_5 n (v5 + 1) (h0 ++ [g15_0 (Prod.fst (Prod.snd (Prod.snd (List.getD x0 (Int.toNat v5) (ByteArray.empty, ByteArray.empty, ByteArray.empty, ())))))]) (x0) ds)))))))))) else (if (Decidable.decide ((↑(List.length h0) : Int) > 16)) = true then (ds = [Dyn.mk (Ty.sl (Ty.cons Ty.str (Ty.cons (Ty.int IntKind.i64) (Ty.cons (Ty.int IntKind.i64) (Ty.cons (Ty.int IntKind.i64) (Ty.cons (Ty.int IntKind.i64) Ty.unit)))))) [], Dyn.mk (Ty.int IntKind.i64) 5]) else (ds = [Dyn.mk (Ty.sl (Ty.cons Ty.str (Ty.cons (Ty.int IntKind.i64) (Ty.cons (Ty.int IntKind.i64) (Ty.cons (Ty.int IntKind.i64) (Ty.cons (Ty.int IntKind.i64) Ty.unit)))))) h0, Dyn.mk (Ty.int IntKind.i64) 0])))
end
theorem p5_0 (x0 : List (ByteArray × ByteArray × ByteArray × Unit)) : runF tab ext5 false 51 [] 2000 [] tys5 Tryz.f5.results [true] [.code b5] (entE 0 0 sig5 (x0, ())) (entL sig5 (x0, ())) = some ([Dyn.mk (Ty.sl (Ty.cons Ty.str (Ty.cons (Ty.int IntKind.i64) (Ty.cons (Ty.int IntKind.i64) (Ty.cons (Ty.int IntKind.i64) (Ty.cons (Ty.int IntKind.i64) Ty.unit)))))) [], Dyn.mk (Ty.int IntKind.i64) 1], [], [True, (!g14_0 x0) = Bool.true]) := by kernel_rfl
theorem p5_1 (x0 : List (ByteArray × ByteArray × ByteArray × Unit)) : Am.runN tab ext5 false 51 [] 2000 [] [] [0, 4, 5] [0] [false] [.code b5] (entE 0 0 sig5 (x0, ())) (entL sig5 (x0, ())) = some (cutAt b5 5, E5_5 (0) ([]) (x0), L5_5 (0) ([]) (x0), [True, (!g14_0 x0) = Bool.false]) := by kernel_rfl
theorem p5_2 (v5 : Int) (h0 : List (ByteArray × Int × Int × Int × Int × Unit)) (x0 : List (ByteArray × ByteArray × ByteArray × Unit)) : Am.runN tab ext5 false 51 [] 2000 [] [] [0, 4, 5] [0] [true, true] (cutAt b5 5) (E5_5 v5 h0 x0) (L5_5 v5 h0 x0) = some (cutAt b5 5, E5_5 (v5 + 1) (h0) (x0), L5_5 (v5 + 1) (h0) (x0), [Decidable.decide (v5 < (↑(List.length x0) : Int)) = Bool.true, 0 ≤ v5, v5 < (↑(List.length x0) : Int), (!ByteArray.toList (Prod.fst (List.getD x0 (Int.toNat v5) (ByteArray.empty, ByteArray.empty, ByteArray.empty, ()))) == ByteArray.toList (ByteArray.mk #[99, 104, 101, 99, 107])) = Bool.true, InR IntKind.i64 (v5 + 1)]) := by kernel_rfl
theorem p5_3 (v5 : Int) (h0 : List (ByteArray × Int × Int × Int × Int × Unit)) (x0 : List (ByteArray × ByteArray × ByteArray × Unit)) : runF tab ext5 false 51 [] 2000 [] tys5 Tryz.f5.results [true, false, true] (cutAt b5 5) (E5_5 v5 h0 x0) (L5_5 v5 h0 x0) = some ([Dyn.mk (Ty.sl (Ty.cons Ty.str (Ty.cons (Ty.int IntKind.i64) (Ty.cons (Ty.int IntKind.i64) (Ty.cons (Ty.int IntKind.i64) (Ty.cons (Ty.int IntKind.i64) Ty.unit)))))) [], Dyn.mk (Ty.int IntKind.i64) 9], [], [Decidable.decide (v5 < (↑(List.length x0) : Int)) = Bool.true, 0 ≤ v5, v5 < (↑(List.length x0) : Int), (!ByteArray.toList (Prod.fst (List.getD x0 (Int.toNat v5) (ByteArray.empty, ByteArray.empty, ByteArray.empty, ()))) == ByteArray.toList (ByteArray.mk #[99, 104, 101, 99, 107])) = Bool.false, 0 ≤ v5, v5 < (↑(List.length x0) : Int), P15 (Prod.fst (Prod.snd (Prod.snd (List.getD x0 (Int.toNat v5) (ByteArray.empty, ByteArray.empty, ByteArray.empty, ()))))), (!g15_1 (Prod.fst (Prod.snd (Prod.snd (List.getD x0 (Int.toNat v5) (ByteArray.empty, ByteArray.empty, ByteArray.empty, ())))))) = Bool.true]) := by kernel_rfl
theorem p5_4 (v5 : Int) (h0 : List (ByteArray × Int × Int × Int × Int × Unit)) (x0 : List (ByteArray × ByteArray × ByteArray × Unit)) : runF tab ext5 false 51 [] 2000 [] tys5 Tryz.f5.results [true, false, false, true] (cutAt b5 5) (E5_5 v5 h0 x0) (L5_5 v5 h0 x0) = some ([Dyn.mk (Ty.sl (Ty.cons Ty.str (Ty.cons (Ty.int IntKind.i64) (Ty.cons (Ty.int IntKind.i64) (Ty.cons (Ty.int IntKind.i64) (Ty.cons (Ty.int IntKind.i64) Ty.unit)))))) [], Dyn.mk (Ty.int IntKind.i64) 6], [], [Decidable.decide (v5 < (↑(List.length x0) : Int)) = Bool.true, 0 ≤ v5, v5 < (↑(List.length x0) : Int), (!ByteArray.toList (Prod.fst (List.getD x0 (Int.toNat v5) (ByteArray.empty, ByteArray.empty, ByteArray.empty, ()))) == ByteArray.toList (ByteArray.mk #[99, 104, 101, 99, 107])) = Bool.false, 0 ≤ v5, v5 < (↑(List.length x0) : Int), P15 (Prod.fst (Prod.snd (Prod.snd (List.getD x0 (Int.toNat v5) (ByteArray.empty, ByteArray.empty, ByteArray.empty, ()))))), (!g15_1 (Prod.fst (Prod.snd (Prod.snd (List.getD x0 (Int.toNat v5) (ByteArray.empty, ByteArray.empty, ByteArray.empty, ())))))) = Bool.false, 0 ≤ v5, v5 < (↑(List.length x0) : Int), (!ByteArray.toList (Prod.fst (g15_0 (Prod.fst (Prod.snd (Prod.snd (List.getD x0 (Int.toNat v5) (ByteArray.empty, ByteArray.empty, ByteArray.empty, ()))))))) == ByteArray.toList (Prod.fst (Prod.snd (List.getD x0 (Int.toNat v5) (ByteArray.empty, ByteArray.empty, ByteArray.empty, ()))))) = Bool.true]) := by kernel_rfl
theorem p5_5 (v5 : Int) (h0 : List (ByteArray × Int × Int × Int × Int × Unit)) (x0 : List (ByteArray × ByteArray × ByteArray × Unit)) : Am.runN tab ext5 false 51 [] 2000 [] [] [0, 4, 5] [0] [true, false, false, false] (cutAt b5 5) (E5_5 v5 h0 x0) (L5_5 v5 h0 x0) = some (cutAt b5 5, E5_5 (v5 + 1) (h0 ++ [g15_0 (Prod.fst (Prod.snd (Prod.snd (List.getD x0 (Int.toNat v5) (ByteArray.empty, ByteArray.empty, ByteArray.empty, ())))))]) (x0), L5_5 (v5 + 1) (h0 ++ [g15_0 (Prod.fst (Prod.snd (Prod.snd (List.getD x0 (Int.toNat v5) (ByteArray.empty, ByteArray.empty, ByteArray.empty, ())))))]) (x0), [Decidable.decide (v5 < (↑(List.length x0) : Int)) = Bool.true, 0 ≤ v5, v5 < (↑(List.length x0) : Int), (!ByteArray.toList (Prod.fst (List.getD x0 (Int.toNat v5) (ByteArray.empty, ByteArray.empty, ByteArray.empty, ()))) == ByteArray.toList (ByteArray.mk #[99, 104, 101, 99, 107])) = Bool.false, 0 ≤ v5, v5 < (↑(List.length x0) : Int), P15 (Prod.fst (Prod.snd (Prod.snd (List.getD x0 (Int.toNat v5) (ByteArray.empty, ByteArray.empty, ByteArray.empty, ()))))), (!g15_1 (Prod.fst (Prod.snd (Prod.snd (List.getD x0 (Int.toNat v5) (ByteArray.empty, ByteArray.empty, ByteArray.empty, ())))))) = Bool.false, 0 ≤ v5, v5 < (↑(List.length x0) : Int), (!ByteArray.toList (Prod.fst (g15_0 (Prod.fst (Prod.snd (Prod.snd (List.getD x0 (Int.toNat v5) (ByteArray.empty, ByteArray.empty, ByteArray.empty, ()))))))) == ByteArray.toList (Prod.fst (Prod.snd (List.getD x0 (Int.toNat v5) (ByteArray.empty, ByteArray.empty, ByteArray.empty, ()))))) = Bool.false, (List.length h0 + 1) * 48 ≤ 140737488355328, InR IntKind.i64 (v5 + 1)]) := by kernel_rfl
theorem p5_6 (v5 : Int) (h0 : List (ByteArray × Int × Int × Int × Int × Unit)) (x0 : List (ByteArray × ByteArray × ByteArray × Unit)) : runF tab ext5 false 51 [] 2000 [] tys5 Tryz.f5.results [false, true] (cutAt b5 5) (E5_5 v5 h0 x0) (L5_5 v5 h0 x0) = some ([Dyn.mk (Ty.sl (Ty.cons Ty.str (Ty.cons (Ty.int IntKind.i64) (Ty.cons (Ty.int IntKind.i64) (Ty.cons (Ty.int IntKind.i64) (Ty.cons (Ty.int IntKind.i64) Ty.unit)))))) [], Dyn.mk (Ty.int IntKind.i64) 5], [], [Decidable.decide (v5 < (↑(List.length x0) : Int)) = Bool.false, Decidable.decide ((↑(List.length h0) : Int) > 16) = Bool.true]) := by kernel_rfl
theorem p5_7 (v5 : Int) (h0 : List (ByteArray × Int × Int × Int × Int × Unit)) (x0 : List (ByteArray × ByteArray × ByteArray × Unit)) : runF tab ext5 false 51 [] 2000 [] tys5 Tryz.f5.results [false, false] (cutAt b5 5) (E5_5 v5 h0 x0) (L5_5 v5 h0 x0) = some ([Dyn.mk (Ty.sl (Ty.cons Ty.str (Ty.cons (Ty.int IntKind.i64) (Ty.cons (Ty.int IntKind.i64) (Ty.cons (Ty.int IntKind.i64) (Ty.cons (Ty.int IntKind.i64) Ty.unit)))))) h0, Dyn.mk (Ty.int IntKind.i64) 0], [], [Decidable.decide (v5 < (↑(List.length x0) : Int)) = Bool.false, Decidable.decide ((↑(List.length h0) : Int) > 16) = Bool.false]) := by kernel_rfl
theorem snd5 : ∀ n, (∀ (x0 : List (ByteArray × ByteArray × ByteArray × Unit)) ds, R5 n x0 ds → ∀ w0 O q, AtV Tryz.prog 5 (PostR ds [] [] q w0 O) 51 w0 O q [] [.code b5] (entE 0 0 sig5 (x0, ())) (entL sig5 (x0, ()))) ∧ (∀ (v5 : Int) (h0 : List (ByteArray × Int × Int × Int × Int × Unit)) (x0 : List (ByteArray × ByteArray × ByteArray × Unit)) ds, R5_5 n v5 h0 x0 ds → ∀ w0 O q, AtV Tryz.prog 5 (PostR ds [] [] q w0 O) 51 w0 O q [] (cutAt b5 5) (E5_5 v5 h0 x0) (L5_5 v5 h0 x0)) := by
  intro n
  induction n with
  | zero => exact ⟨fun _ _ h => by simp only [R5] at h, fun _ _ _ _ h => by simp only [R5_5] at h⟩
  | succ n ih =>
  obtain ⟨ih, ih5⟩ := ih
  refine ⟨?_, ?_⟩
  · intro x0 ds h w0 O q
    rw [R5] at h
    by_cases b0 : (!g14_0 x0) = true
    · rw [if_pos b0] at h
      subst h
      exact AtV.fin Tryz.func5 tabOk ext5Ok mixed (p5_0 x0) ⟨trivial, b0, trivial⟩
    · rw [if_neg b0] at h
      replace b0 := Bool.eq_false_iff.2 b0
      exact AtV.runN tabOk ext5Ok mixed (p5_1 x0) ⟨trivial, b0, trivial⟩ (ih5 _ _ _ _ h w0 O q)

  · intro v5 h0 x0 ds h w0 O q
    rw [R5_5] at h
    by_cases b0 : (Decidable.decide (v5 < (↑(List.length x0) : Int))) = true
    · rw [if_pos b0] at h
      obtain ⟨s0, s1, h⟩ := h
      by_cases b1 : (!ByteArray.toList (Prod.fst (List.getD x0 (Int.toNat v5) (ByteArray.empty, ByteArray.empty, ByteArray.empty, ()))) == ByteArray.toList (ByteArray.mk #[99, 104, 101, 99, 107])) = true
      · rw [if_pos b1] at h
        obtain ⟨s2, h⟩ := h
        exact AtV.runN tabOk ext5Ok mixed (p5_2 v5 h0 x0) ⟨b0, s0, s1, b1, s2, trivial⟩ (ih5 _ _ _ _ h w0 O q)
      · rw [if_neg b1] at h
        replace b1 := Bool.eq_false_iff.2 b1
        obtain ⟨s2, s3, h⟩ := h
        obtain ⟨s4, h⟩ := h
        by_cases b2 : (!g15_1 (Prod.fst (Prod.snd (Prod.snd (List.getD x0 (Int.toNat v5) (ByteArray.empty, ByteArray.empty, ByteArray.empty, ())))))) = true
        · rw [if_pos b2] at h
          subst h
          exact AtV.fin Tryz.func5 tabOk ext5Ok mixed (p5_3 v5 h0 x0) ⟨b0, s0, s1, b1, s2, s3, s4, b2, trivial⟩
        · rw [if_neg b2] at h
          replace b2 := Bool.eq_false_iff.2 b2
          obtain ⟨s5, s6, h⟩ := h
          by_cases b3 : (!ByteArray.toList (Prod.fst (g15_0 (Prod.fst (Prod.snd (Prod.snd (List.getD x0 (Int.toNat v5) (ByteArray.empty, ByteArray.empty, ByteArray.empty, ()))))))) == ByteArray.toList (Prod.fst (Prod.snd (List.getD x0 (Int.toNat v5) (ByteArray.empty, ByteArray.empty, ByteArray.empty, ()))))) = true
          · rw [if_pos b3] at h
            subst h
            exact AtV.fin Tryz.func5 tabOk ext5Ok mixed (p5_4 v5 h0 x0) ⟨b0, s0, s1, b1, s2, s3, s4, b2, s5, s6, b3, trivial⟩
          · rw [if_neg b3] at h
            replace b3 := Bool.eq_false_iff.2 b3
            obtain ⟨s7, h⟩ := h
            obtain ⟨s8, h⟩ := h
            exact AtV.runN tabOk ext5Ok mixed (p5_5 v5 h0 x0) ⟨b0, s0, s1, b1, s2, s3, s4, b2, s5, s6, b3, s7, s8, trivial⟩ (ih5 _ _ _ _ h w0 O q)
    · rw [if_neg b0] at h
      replace b0 := Bool.eq_false_iff.2 b0
      by_cases b1 : (Decidable.decide ((↑(List.length h0) : Int) > 16)) = true
      · rw [if_pos b1] at h
        subst h
        exact AtV.fin Tryz.func5 tabOk ext5Ok mixed (p5_6 v5 h0 x0) ⟨b0, b1, trivial⟩
      · rw [if_neg b1] at h
        replace b1 := Bool.eq_false_iff.2 b1
        subst h
        exact AtV.fin Tryz.func5 tabOk ext5Ok mixed (p5_7 v5 h0 x0) ⟨b0, b1, trivial⟩



def is5 (b : (ByteArray × ByteArray × ByteArray × Unit)) : Bool := ByteArray.toList b.1 == ByteArray.toList (ByteArray.mk #[99, 104, 101, 99, 107])
def co5 : List (ByteArray × ByteArray × ByteArray × Unit) → List (ByteArray × Int × Int × Int × Int × Unit) → Int ⊕ List (ByteArray × Int × Int × Int × Int × Unit)
  | [], h => .inr h
  | b :: r, h => if is5 b = false then co5 r h else if g15_1 b.2.2.1 = false then .inl 9 else if (ByteArray.toList (g15_0 b.2.2.1).1 == ByteArray.toList b.2.1) = false then .inl 6 else co5 r (h ++ [g15_0 b.2.2.1])
def out5 : Int ⊕ List (ByteArray × Int × Int × Int × Int × Unit) → List (ByteArray × Int × Int × Int × Int × Unit) × Int
  | .inl c => ([], c)
  | .inr h => if h.length > 16 then ([], 5) else (h, 0)
def all5 (x0 : List (ByteArray × ByteArray × ByteArray × Unit)) : List (ByteArray × Int × Int × Int × Int × Unit) × Int := if g14_0 x0 = false then ([], 1) else out5 (co5 x0 [])
def g5_0 (x0 : List (ByteArray × ByteArray × ByteArray × Unit)) : List (ByteArray × Int × Int × Int × Int × Unit) := (all5 x0).1
def g5_1 (x0 : List (ByteArray × ByteArray × ByteArray × Unit)) : Int := (all5 x0).2
def P5 (x0 : List (ByteArray × ByteArray × ByteArray × Unit)) : Prop := x0.length ≤ 1048576 ∧ ∀ b ∈ x0, P15 b.2.2.1
def res5 (p : List (ByteArray × Int × Int × Int × Int × Unit) × Int) : List Dyn := [⟨.sl (.cons .str (.cons (.int .i64) (.cons (.int .i64) (.cons (.int .i64) (.cons (.int .i64) .unit))))), p.1⟩, ⟨.int .i64, p.2⟩]

theorem run5 (x0 : List (ByteArray × ByteArray × ByteArray × Unit)) (hp : P5 x0) : ∀ (k i : Nat) (h : List (ByteArray × Int × Int × Int × Int × Unit)), i + k = x0.length → h.length ≤ i →
    R5_5 (k + 1) (i : Int) h x0 (res5 (out5 (co5 (x0.drop i) h))) := by
  obtain ⟨hl, hP⟩ := hp
  intro k
  induction k with
  | zero =>
    intro i h hi hh
    rw [R5_5, if_neg (by simp only [decide_eq_true_eq]; omega), List.drop_of_length_le (by omega)]
    unfold co5 out5
    by_cases hn : h.length > 16
    · rw [if_pos (by simp only [decide_eq_true_eq]; omega)]
      simp only [if_pos hn]; rfl
    · rw [if_neg (by simp only [decide_eq_true_eq]; omega)]
      simp only [if_neg hn]; rfl
  | succ k ih =>
    intro i h hi hh
    have hlt : i < x0.length := by omega
    have hup : InR .i64 ((i : Int) + 1) := by rw [i64_iff]; omega
    have e1 : (i : Int) + 1 = ((i + 1 : Nat) : Int) := by omega
    have hb := hP _ (mem_getD x0 i (ByteArray.empty, ByteArray.empty, ByteArray.empty, ()) hlt)
    rw [R5_5, if_pos (by simp only [decide_eq_true_eq]; omega)]
    simp only [Int.toNat_natCast]
    rw [drop_get x0 i (ByteArray.empty, ByteArray.empty, ByteArray.empty, ()) hlt]
    generalize x0.getD i (ByteArray.empty, ByteArray.empty, ByteArray.empty, ()) = b at *
    refine ⟨by omega, by omega, ?_⟩
    unfold co5
    have ei : (ByteArray.toList (Prod.fst b) == ByteArray.toList (ByteArray.mk #[99, 104, 101, 99, 107])) = is5 b := rfl
    rw [ei]
    cases h1 : is5 b with
    | false =>
      rw [if_pos (show (!false) = true from rfl), if_pos (show false = false from rfl)]
      exact ⟨hup, by rw [e1]; exact ih (i + 1) h (by omega) (by omega)⟩
    | true =>
      rw [if_neg (show ¬ (!true) = true by decide), if_neg (show ¬ true = false by decide)]
      refine ⟨by omega, by omega, hb, ?_⟩
      cases h2 : g15_1 b.2.2.1 with
      | false =>
        rw [if_pos (show (!false) = true from rfl), if_pos (show false = false from rfl)]; rfl
      | true =>
        rw [if_neg (show ¬ (!true) = true by decide), if_neg (show ¬ true = false by decide)]
        refine ⟨by omega, by omega, ?_⟩
        cases h3 : (ByteArray.toList (g15_0 b.2.2.1).1 == ByteArray.toList b.2.1) with
        | false =>
          rw [if_pos (show (!false) = true from rfl), if_pos (show false = false from rfl)]; rfl
        | true =>
          rw [if_neg (show ¬ (!true) = true by decide), if_neg (show ¬ true = false by decide)]
          exact ⟨by omega, hup, by rw [e1]; exact ih (i + 1) (h ++ [g15_0 b.2.2.1]) (by omega) (by simp; omega)⟩

theorem top5 (x0 : List (ByteArray × ByteArray × ByteArray × Unit)) (hp : P5 x0) : ∃ n, R5 n x0 (res5 (all5 x0)) := by
  refine ⟨(x0.length + 1) + 1, ?_⟩
  rw [R5]
  unfold all5
  cases h1 : g14_0 x0 with
  | false => rw [if_pos (show (!false) = true from rfl), if_pos (show false = false from rfl)]; rfl
  | true =>
    rw [if_neg (show ¬ (!true) = true by decide), if_neg (show ¬ true = false by decide)]
    exact run5 x0 hp x0.length 0 [] (by omega) (by simp)

def S5 : Am.Spec := { sig := sig5, pre := fun ⟨x0, _⟩ => P5 x0, res := fun ⟨x0, _⟩ => [⟨.sl (.cons .str (.cons (.int .i64) (.cons (.int .i64) (.cons (.int .i64) (.cons (.int .i64) .unit))))), g5_0 x0⟩, ⟨.int .i64, g5_1 x0⟩] }
theorem con5 : Contract Tryz.prog 5 S5 := contract_of Tryz.func5 hb5 (Nat.le_of_ble_eq_true (by kernel_rfl)) (fun ⟨x0, _⟩ h hwf w0 O q => by
  obtain ⟨n, hn⟩ := top5 x0 h
  exact (snd5 n).1 x0 _ hn w0 O q)

end Go.Proofs.YteojabdeehagnaaGreatDoor

/- Function 13 (laws.szBlock): its runs between cut points. Written by a program of this repo (gen). -/
set_option linter.unusedVariables false
set_option linter.unusedSimpArgs false
set_option maxRecDepth 100000
namespace Go.Proofs.YteojabdeehagnaaGreatDoor
open Go Go.Am Go.Proofs
def ext13 : Ext := []
theorem ext13Ok : ExtOk Tryz.prog ext13 := trivial
/-! Function 13. -/
noncomputable def b13 : Code := bodyOf Tryz.f13
theorem hb13 : Tryz.f13.body = some b13 := by kernel_rfl
def sig13 : List AT := [AT.v (Ty.cons Ty.str (Ty.cons Ty.str (Ty.cons Ty.str Ty.unit))), AT.v (Ty.int IntKind.i64)]
def tys13 : List Ty := [Ty.int IntKind.i64]
def P13 (x0 : ByteArray × ByteArray × ByteArray × Unit) (x1 : Int) : Prop := ((InR IntKind.i64 (x1 - (↑(ByteArray.size (Prod.fst x0)) : Int))) ∧ (if (Decidable.decide (x1 - (↑(ByteArray.size (Prod.fst x0)) : Int) < 0)) = true then True else ((InR IntKind.i64 (x1 - (↑(ByteArray.size (Prod.fst x0)) : Int) - (↑(ByteArray.size (Prod.fst (Prod.snd x0))) : Int))) ∧ (if (Decidable.decide (x1 - (↑(ByteArray.size (Prod.fst x0)) : Int) - (↑(ByteArray.size (Prod.fst (Prod.snd x0))) : Int) < 0)) = true then True else ((InR IntKind.i64 (x1 - (↑(ByteArray.size (Prod.fst x0)) : Int) - (↑(ByteArray.size (Prod.fst (Prod.snd x0))) : Int) - (↑(ByteArray.size (Prod.fst (Prod.snd (Prod.snd x0)))) : Int))) ∧ True)))))
def g13_0 (x0 : ByteArray × ByteArray × ByteArray × Unit) (x1 : Int) : Int := (if (Decidable.decide (x1 - (↑(ByteArray.size (Prod.fst x0)) : Int) < 0)) = true then -1 else (if (Decidable.decide (x1 - (↑(ByteArray.size (Prod.fst x0)) : Int) - (↑(ByteArray.size (Prod.fst (Prod.snd x0))) : Int) < 0)) = true then -1 else (if (Decidable.decide (x1 - (↑(ByteArray.size (Prod.fst x0)) : Int) - (↑(ByteArray.size (Prod.fst (Prod.snd x0))) : Int) - (↑(ByteArray.size (Prod.fst (Prod.snd (Prod.snd x0)))) : Int) < 0)) = true then -1 else x1 - (↑(ByteArray.size (Prod.fst x0)) : Int) - (↑(ByteArray.size (Prod.fst (Prod.snd x0))) : Int) - (↑(ByteArray.size (Prod.fst (Prod.snd (Prod.snd x0)))) : Int))))
theorem p13_0 (x0 : ByteArray × ByteArray × ByteArray × Unit) (x1 : Int) : runF tab ext13 false 27 [] 2000 [] tys13 Tryz.f13.results [true] [.code b13] (entE 0 0 sig13 (x0, x1, ())) (entL sig13 (x0, x1, ())) = some ([Dyn.mk (Ty.int IntKind.i64) (-1)], [], [InR IntKind.i64 (x1 - (↑(ByteArray.size (Prod.fst x0)) : Int)), Decidable.decide (x1 - (↑(ByteArray.size (Prod.fst x0)) : Int) < 0) = Bool.true]) := by kernel_rfl
theorem p13_1 (x0 : ByteArray × ByteArray × ByteArray × Unit) (x1 : Int) : runF tab ext13 false 27 [] 2000 [] tys13 Tryz.f13.results [false, true] [.code b13] (entE 0 0 sig13 (x0, x1, ())) (entL sig13 (x0, x1, ())) = some ([Dyn.mk (Ty.int IntKind.i64) (-1)], [], [InR IntKind.i64 (x1 - (↑(ByteArray.size (Prod.fst x0)) : Int)), Decidable.decide (x1 - (↑(ByteArray.size (Prod.fst x0)) : Int) < 0) = Bool.false, InR IntKind.i64 (x1 - (↑(ByteArray.size (Prod.fst x0)) : Int) - (↑(ByteArray.size (Prod.fst (Prod.snd x0))) : Int)), Decidable.decide (x1 - (↑(ByteArray.size (Prod.fst x0)) : Int) - (↑(ByteArray.size (Prod.fst (Prod.snd x0))) : Int) < 0) = Bool.true]) := by kernel_rfl
theorem p13_2 (x0 : ByteArray × ByteArray × ByteArray × Unit) (x1 : Int) : runF tab ext13 false 27 [] 2000 [] tys13 Tryz.f13.results [false, false, true] [.code b13] (entE 0 0 sig13 (x0, x1, ())) (entL sig13 (x0, x1, ())) = some ([Dyn.mk (Ty.int IntKind.i64) (-1)], [], [InR IntKind.i64 (x1 - (↑(ByteArray.size (Prod.fst x0)) : Int)), Decidable.decide (x1 - (↑(ByteArray.size (Prod.fst x0)) : Int) < 0) = Bool.false, InR IntKind.i64 (x1 - (↑(ByteArray.size (Prod.fst x0)) : Int) - (↑(ByteArray.size (Prod.fst (Prod.snd x0))) : Int)), Decidable.decide (x1 - (↑(ByteArray.size (Prod.fst x0)) : Int) - (↑(ByteArray.size (Prod.fst (Prod.snd x0))) : Int) < 0) = Bool.false, InR IntKind.i64 (x1 - (↑(ByteArray.size (Prod.fst x0)) : Int) - (↑(ByteArray.size (Prod.fst (Prod.snd x0))) : Int) - (↑(ByteArray.size (Prod.fst (Prod.snd (Prod.snd x0)))) : Int)), Decidable.decide (x1 - (↑(ByteArray.size (Prod.fst x0)) : Int) - (↑(ByteArray.size (Prod.fst (Prod.snd x0))) : Int) - (↑(ByteArray.size (Prod.fst (Prod.snd (Prod.snd x0)))) : Int) < 0) = Bool.true]) := by kernel_rfl
theorem p13_3 (x0 : ByteArray × ByteArray × ByteArray × Unit) (x1 : Int) : runF tab ext13 false 27 [] 2000 [] tys13 Tryz.f13.results [false, false, false] [.code b13] (entE 0 0 sig13 (x0, x1, ())) (entL sig13 (x0, x1, ())) = some ([Dyn.mk (Ty.int IntKind.i64) (x1 - (↑(ByteArray.size (Prod.fst x0)) : Int) - (↑(ByteArray.size (Prod.fst (Prod.snd x0))) : Int) - (↑(ByteArray.size (Prod.fst (Prod.snd (Prod.snd x0)))) : Int))], [], [InR IntKind.i64 (x1 - (↑(ByteArray.size (Prod.fst x0)) : Int)), Decidable.decide (x1 - (↑(ByteArray.size (Prod.fst x0)) : Int) < 0) = Bool.false, InR IntKind.i64 (x1 - (↑(ByteArray.size (Prod.fst x0)) : Int) - (↑(ByteArray.size (Prod.fst (Prod.snd x0))) : Int)), Decidable.decide (x1 - (↑(ByteArray.size (Prod.fst x0)) : Int) - (↑(ByteArray.size (Prod.fst (Prod.snd x0))) : Int) < 0) = Bool.false, InR IntKind.i64 (x1 - (↑(ByteArray.size (Prod.fst x0)) : Int) - (↑(ByteArray.size (Prod.fst (Prod.snd x0))) : Int) - (↑(ByteArray.size (Prod.fst (Prod.snd (Prod.snd x0)))) : Int)), Decidable.decide (x1 - (↑(ByteArray.size (Prod.fst x0)) : Int) - (↑(ByteArray.size (Prod.fst (Prod.snd x0))) : Int) - (↑(ByteArray.size (Prod.fst (Prod.snd (Prod.snd x0)))) : Int) < 0) = Bool.false]) := by kernel_rfl
theorem at13 (x0 : ByteArray × ByteArray × ByteArray × Unit) (x1 : Int) (h : P13 x0 x1) (w0 : World) (O : List Nat) (q : Nat → Value) : AtV Tryz.prog 13 (PostR [⟨Ty.int IntKind.i64, g13_0 x0 x1⟩] [] [] q w0 O) 27 w0 O q [] [.code b13] (entE 0 0 sig13 (x0, x1, ())) (entL sig13 (x0, x1, ())) := by
  unfold P13 at h
  unfold g13_0
  obtain ⟨s0, h⟩ := h
  by_cases b0 : (Decidable.decide (x1 - (↑(ByteArray.size (Prod.fst x0)) : Int) < 0)) = true
  · try simp only [if_pos b0] at h ⊢
    exact AtV.fin Tryz.func13 tabOk ext13Ok mixed (p13_0 x0 x1) ⟨s0, b0, trivial⟩
  · try simp only [if_neg b0] at h ⊢
    replace b0 := Bool.eq_false_iff.2 b0
    obtain ⟨s1, h⟩ := h
    by_cases b1 : (Decidable.decide (x1 - (↑(ByteArray.size (Prod.fst x0)) : Int) - (↑(ByteArray.size (Prod.fst (Prod.snd x0))) : Int) < 0)) = true
    · try simp only [if_pos b1] at h ⊢
      exact AtV.fin Tryz.func13 tabOk ext13Ok mixed (p13_1 x0 x1) ⟨s0, b0, s1, b1, trivial⟩
    · try simp only [if_neg b1] at h ⊢
      replace b1 := Bool.eq_false_iff.2 b1
      obtain ⟨s2, h⟩ := h
      by_cases b2 : (Decidable.decide (x1 - (↑(ByteArray.size (Prod.fst x0)) : Int) - (↑(ByteArray.size (Prod.fst (Prod.snd x0))) : Int) - (↑(ByteArray.size (Prod.fst (Prod.snd (Prod.snd x0)))) : Int) < 0)) = true
      · try simp only [if_pos b2] at h ⊢
        exact AtV.fin Tryz.func13 tabOk ext13Ok mixed (p13_2 x0 x1) ⟨s0, b0, s1, b1, s2, b2, trivial⟩
      · try simp only [if_neg b2] at h ⊢
        replace b2 := Bool.eq_false_iff.2 b2
        exact AtV.fin Tryz.func13 tabOk ext13Ok mixed (p13_3 x0 x1) ⟨s0, b0, s1, b1, s2, b2, trivial⟩

def S13 : Am.Spec := { sig := sig13, pre := fun ⟨x0, x1, _⟩ => P13 x0 x1, res := fun ⟨x0, x1, _⟩ => [⟨Ty.int IntKind.i64, g13_0 x0 x1⟩] }
theorem con13 : Contract Tryz.prog 13 S13 := contract_of Tryz.func13 hb13 (Nat.le_of_ble_eq_true (by kernel_rfl)) (fun ⟨x0, x1, _⟩ h _ w0 O q => at13 x0 x1 h w0 O q)


theorem sz13 (x0 : ByteArray × ByteArray × ByteArray × Unit) (x1 : Int) (h : 0 ≤ x1) (hi : InR .i64 x1) (hw : Wf (.cons .str (.cons .str (.cons .str .unit))) x0) :
    P13 x0 x1 ∧ -1 ≤ g13_0 x0 x1 ∧ g13_0 x0 x1 ≤ x1 := by
  have h1 : x0.1.size ≤ 9223372036854775807 := hw.1
  have h2 : x0.2.1.size ≤ 9223372036854775807 := hw.2.1
  have h3 : x0.2.2.1.size ≤ 9223372036854775807 := hw.2.2.1
  rw [i64_iff] at hi
  unfold P13 g13_0
  simp only [decide_eq_true_eq, i64_iff]
  repeat' (first | apply And.intro | split)
  all_goals first | trivial | omega

end Go.Proofs.YteojabdeehagnaaGreatDoor

/- Function 4 (laws.szBlockS): its runs between cut points. Written by a program of this repo (gen). -/
set_option linter.unusedVariables false
set_option linter.unusedSimpArgs false
set_option maxRecDepth 100000
namespace Go.Proofs.YteojabdeehagnaaGreatDoor
open Go Go.Am Go.Proofs
def ext4 : Ext := [(13, S13)]
theorem call4_13 : Callable Tryz.prog 13 := ⟨Tryz.f13, Tryz.func13, by kernel_rfl, by kernel_rfl⟩
theorem ext4Ok : ExtOk Tryz.prog ext4 := ⟨⟨call4_13, con13⟩, trivial⟩
/-! Function 4. -/
noncomputable def b4 : Code := bodyOf Tryz.f4
theorem hb4 : Tryz.f4.body = some b4 := by kernel_rfl
def sig4 : List AT := [AT.v (Ty.sl (Ty.cons Ty.str (Ty.cons Ty.str (Ty.cons Ty.str Ty.unit)))), AT.v (Ty.int IntKind.i64)]
def tys4 : List Ty := [Ty.int IntKind.i64]
def E4_5 (v1 : Int) (v5 : Int) (x0 : List (ByteArray × ByteArray × ByteArray × Unit)) : Env := [(0, PV.a (Atom.sl (Ty.cons Ty.str (Ty.cons Ty.str (Ty.cons Ty.str Ty.unit))) x0)), (1, PV.a (Atom.val (Value.int IntKind.i64 v1))), (5, PV.a (Atom.val (Value.int IntKind.i64 v5)))]
def L4_5 (v1 : Int) (v5 : Int) (x0 : List (ByteArray × ByteArray × ByteArray × Unit)) : Heap := []
mutual
def R4 : Nat → List (ByteArray × ByteArray × ByteArray × Unit) → Int → List Dyn → Prop
  | 0, _, _, _ => False
  | n + 1, x0, x1, ds => ((InR IntKind.i64 (x1 - (↑(List.length x0) : Int))) ∧ (if (Decidable.decide (x1 - (↑(List.length x0) : Int) < 0)) = true then (ds = [Dyn.mk (Ty.int IntKind.i64) (-1)]) else (R4_5 n (x1 - (↑(List.length x0) : Int)) (0) (x0) ds)))
def R4_5 : Nat → Int → Int → List (ByteArray × ByteArray × ByteArray × Unit) → List Dyn → Prop
  | 0, _, _, _, _ => False
  | n + 1, v1, v5, x0, ds => (if (Decidable.decide (v5 < (↑(List.length x0) : Int))) = true then ((0 ≤ v5) ∧ (v5 < (↑(List.length x0) : Int)) ∧ ((P13 (List.getD x0 (Int.toNat v5) (ByteArray.empty, ByteArray.empty, ByteArray.empty, ())) v1) ∧ (if (Decidable.decide (g13_0 (List.getD x0 (Int.toNat v5) (ByteArray.empty, ByteArray.empty, ByteArray.empty, ())) v1 < 0)) = true then (ds = [Dyn.mk (Ty.int IntKind.i64) (-1)]) else ((InR IntKind.i64 (v5 + 1)) ∧ (R4_5 n (g13_0 (List.getD x0 (Int.toNat v5) (ByteArray.empty, ByteArray.empty, ByteArray.empty, ())) v1) (v5 + 1) (x0) ds))))) else (ds = [Dyn.mk (Ty.int IntKind.i64) v1]))
end
theorem p4_0 (x0 : List (ByteArray × ByteArray × ByteArray × Unit)) (x1 : Int) : runF tab ext4 false 27 [] 2000 [] tys4 Tryz.f4.results [true] [.code b4] (entE 0 0 sig4 (x0, x1, ())) (entL sig4 (x0, x1, ())) = some ([Dyn.mk (Ty.int IntKind.i64) (-1)], [], [InR IntKind.i64 (x1 - (↑(List.length x0) : Int)), Decidable.decide (x1 - (↑(List.length x0) : Int) < 0) = Bool.true]) := by kernel_rfl
theorem p4_1 (x0 : List (ByteArray × ByteArray × ByteArray × Unit)) (x1 : Int) : Am.runN tab ext4 false 27 [] 2000 [] [] [0, 1, 5] [] [false] [.code b4] (entE 0 0 sig4 (x0, x1, ())) (entL sig4 (x0, x1, ())) = some (cutAt b4 5, E4_5 (x1 - (↑(List.length x0) : Int)) (0) (x0), L4_5 (x1 - (↑(List.length x0) : Int)) (0) (x0), [InR IntKind.i64 (x1 - (↑(List.length x0) : Int)), Decidable.decide (x1 - (↑(List.length x0) : Int) < 0) = Bool.false]) := by kernel_rfl
theorem p4_2 (v1 : Int) (v5 : Int) (x0 : List (ByteArray × ByteArray × ByteArray × Unit)) : runF tab ext4 false 27 [] 2000 [] tys4 Tryz.f4.results [true, true] (cutAt b4 5) (E4_5 v1 v5 x0) (L4_5 v1 v5 x0) = some ([Dyn.mk (Ty.int IntKind.i64) (-1)], [], [Decidable.decide (v5 < (↑(List.length x0) : Int)) = Bool.true, 0 ≤ v5, v5 < (↑(List.length x0) : Int), P13 (List.getD x0 (Int.toNat v5) (ByteArray.empty, ByteArray.empty, ByteArray.empty, ())) v1, Decidable.decide (g13_0 (List.getD x0 (Int.toNat v5) (ByteArray.empty, ByteArray.empty, ByteArray.empty, ())) v1 < 0) = Bool.true]) := by kernel_rfl
theorem p4_3 (v1 : Int) (v5 : Int) (x0 : List (ByteArray × ByteArray × ByteArray × Unit)) : Am.runN tab ext4 false 27 [] 2000 [] [] [0, 1, 5] [] [true, false] (cutAt b4 5) (E4_5 v1 v5 x0) (L4_5 v1 v5 x0) = some (cutAt b4 5, E4_5 (g13_0 (List.getD x0 (Int.toNat v5) (ByteArray.empty, ByteArray.empty, ByteArray.empty, ())) v1) (v5 + 1) (x0), L4_5 (g13_0 (List.getD x0 (Int.toNat v5) (ByteArray.empty, ByteArray.empty, ByteArray.empty, ())) v1) (v5 + 1) (x0), [Decidable.decide (v5 < (↑(List.length x0) : Int)) = Bool.true, 0 ≤ v5, v5 < (↑(List.length x0) : Int), P13 (List.getD x0 (Int.toNat v5) (ByteArray.empty, ByteArray.empty, ByteArray.empty, ())) v1, Decidable.decide (g13_0 (List.getD x0 (Int.toNat v5) (ByteArray.empty, ByteArray.empty, ByteArray.empty, ())) v1 < 0) = Bool.false, InR IntKind.i64 (v5 + 1)]) := by kernel_rfl
theorem p4_4 (v1 : Int) (v5 : Int) (x0 : List (ByteArray × ByteArray × ByteArray × Unit)) : runF tab ext4 false 27 [] 2000 [] tys4 Tryz.f4.results [false] (cutAt b4 5) (E4_5 v1 v5 x0) (L4_5 v1 v5 x0) = some ([Dyn.mk (Ty.int IntKind.i64) v1], [], [Decidable.decide (v5 < (↑(List.length x0) : Int)) = Bool.false]) := by kernel_rfl
theorem snd4 : ∀ n, (∀ (x0 : List (ByteArray × ByteArray × ByteArray × Unit)) (x1 : Int) ds, R4 n x0 x1 ds → ∀ w0 O q, AtV Tryz.prog 4 (PostR ds [] [] q w0 O) 27 w0 O q [] [.code b4] (entE 0 0 sig4 (x0, x1, ())) (entL sig4 (x0, x1, ()))) ∧ (∀ (v1 : Int) (v5 : Int) (x0 : List (ByteArray × ByteArray × ByteArray × Unit)) ds, R4_5 n v1 v5 x0 ds → ∀ w0 O q, AtV Tryz.prog 4 (PostR ds [] [] q w0 O) 27 w0 O q [] (cutAt b4 5) (E4_5 v1 v5 x0) (L4_5 v1 v5 x0)) := by
  intro n
  induction n with
  | zero => exact ⟨fun _ _ _ h => by simp only [R4] at h, fun _ _ _ _ h => by simp only [R4_5] at h⟩
  | succ n ih =>
  obtain ⟨ih, ih5⟩ := ih
  refine ⟨?_, ?_⟩
  · intro x0 x1 ds h w0 O q
    rw [R4] at h
    obtain ⟨s0, h⟩ := h
    by_cases b0 : (Decidable.decide (x1 - (↑(List.length x0) : Int) < 0)) = true
    · rw [if_pos b0] at h
      subst h
      exact AtV.fin Tryz.func4 tabOk ext4Ok mixed (p4_0 x0 x1) ⟨s0, b0, trivial⟩
    · rw [if_neg b0] at h
      replace b0 := Bool.eq_false_iff.2 b0
      exact AtV.runN tabOk ext4Ok mixed (p4_1 x0 x1) ⟨s0, b0, trivial⟩ (ih5 _ _ _ _ h w0 O q)

  · intro v1 v5 x0 ds h w0 O q
    rw [R4_5] at h
    by_cases b0 : (Decidable.decide (v5 < (↑(List.length x0) : Int))) = true
    · rw [if_pos b0] at h
      obtain ⟨s0, s1, h⟩ := h
      obtain ⟨s2, h⟩ := h
      by_cases b1 : (Decidable.decide (g13_0 (List.getD x0 (Int.toNat v5) (ByteArray.empty, ByteArray.empty, ByteArray.empty, ())) v1 < 0)) = true
      · rw [if_pos b1] at h
        subst h
        exact AtV.fin Tryz.func4 tabOk ext4Ok mixed (p4_2 v1 v5 x0) ⟨b0, s0, s1, s2, b1, trivial⟩
      · rw [if_neg b1] at h
        replace b1 := Bool.eq_false_iff.2 b1
        obtain ⟨s3, h⟩ := h
        exact AtV.runN tabOk ext4Ok mixed (p4_3 v1 v5 x0) ⟨b0, s0, s1, s2, b1, s3, trivial⟩ (ih5 _ _ _ _ h w0 O q)
    · rw [if_neg b0] at h
      replace b0 := Bool.eq_false_iff.2 b0
      subst h
      exact AtV.fin Tryz.func4 tabOk ext4Ok mixed (p4_4 v1 v5 x0) ⟨b0, trivial⟩



def szL4 : List (ByteArray × ByteArray × ByteArray × Unit) → Int → Int
  | [], l => l
  | x :: r, l => if g13_0 x l < 0 then -1 else szL4 r (g13_0 x l)

theorem szL4_ok : ∀ (x0 : List (ByteArray × ByteArray × ByteArray × Unit)) (l : Int), 0 ≤ l → InR .i64 l → (∀ x ∈ x0, Wf (.cons .str (.cons .str (.cons .str .unit))) x) → szL4 x0 l ≤ l
  | [], l, _, _, _ => Int.le_refl _
  | x :: r, l, h, hi, hw => by
    obtain ⟨_, h2, h3⟩ := sz13 x l h hi (hw x (List.mem_cons_self ..))
    simp only [szL4]
    rw [i64_iff] at hi
    split
    · omega
    · have := szL4_ok r (g13_0 x l) (by omega) (by rw [i64_iff]; omega) (fun y hy => hw y (List.mem_cons_of_mem _ hy))
      omega

theorem run4 (x0 : List (ByteArray × ByteArray × ByteArray × Unit)) (hm : x0.length ≤ maxLen) (hw : ∀ x ∈ x0, Wf (.cons .str (.cons .str (.cons .str .unit))) x) : ∀ (k i : Nat) (l : Int), i + k = x0.length → 0 ≤ l → InR .i64 l →
    R4_5 (k + 1) l (i : Int) x0 [⟨.int .i64, szL4 (x0.drop i) l⟩] := by
  intro k
  induction k with
  | zero =>
    intro i l hi _ _
    rw [R4_5, if_neg (by simp; omega), drop_end x0 i (by omega)]
    rfl
  | succ k ih =>
    intro i l hi h0 hl
    rw [R4_5, if_pos (by simp; omega)]
    simp only [Int.toNat_natCast]
    have hmem : x0.getD i (ByteArray.empty, ByteArray.empty, ByteArray.empty, ()) ∈ x0 := by rw [getD_lt _ _ _ (by omega)]; exact List.getElem_mem _
    obtain ⟨h1, h2, h3⟩ := sz13 _ l h0 hl (hw _ hmem)
    refine ⟨by omega, by omega, h1, ?_⟩
    rw [drop_get x0 i (ByteArray.empty, ByteArray.empty, ByteArray.empty, ()) (by omega)]
    simp only [szL4]
    have hl' := hl
    rw [i64_iff] at hl'
    by_cases hn : g13_0 (x0.getD i (ByteArray.empty, ByteArray.empty, ByteArray.empty, ())) l < 0
    · rw [if_pos (by simpa using hn), if_pos hn]
    · rw [if_neg (by simpa using hn), if_neg hn]
      exact ⟨inR_up hm (by omega), ih (i + 1) _ (by omega) (by omega) (by rw [i64_iff]; omega)⟩

def g4_0 (x0 : List (ByteArray × ByteArray × ByteArray × Unit)) (x1 : Int) : Int := if x1 - x0.length < 0 then -1 else szL4 x0 (x1 - x0.length)
def P4 (x0 : List (ByteArray × ByteArray × ByteArray × Unit)) (x1 : Int) : Prop := 0 ≤ x1

theorem g4_le (x0 : List (ByteArray × ByteArray × ByteArray × Unit)) (x1 : Int) (h : 0 ≤ x1) (hi : InR .i64 x1) (hw : Wf (.sl (.cons .str (.cons .str (.cons .str .unit)))) x0) (hg : ¬ g4_0 x0 x1 < 0) : g4_0 x0 x1 ≤ x1 - x0.length := by
  unfold g4_0 at hg ⊢
  rw [i64_iff] at hi
  split
  · rename_i h1
    rw [if_pos h1] at hg
    omega
  · exact szL4_ok x0 _ (by omega) (by rw [i64_iff]; omega) hw.2

theorem top4 (x0 : List (ByteArray × ByteArray × ByteArray × Unit)) (x1 : Int) (hw : Wf (.sl (.cons .str (.cons .str (.cons .str .unit)))) x0) (hi : InR .i64 x1) (h : 0 ≤ x1) : R4 (x0.length + 1 + 1) x0 x1 [⟨Ty.int .i64, g4_0 x0 x1⟩] := by
  have hm : x0.length ≤ maxLen := hw.1
  have hm' : x0.length ≤ 9223372036854775807 := hm
  rw [i64_iff] at hi
  rw [R4]
  refine ⟨by rw [i64_iff]; omega, ?_⟩
  unfold g4_0
  by_cases hn : x1 - (x0.length : Int) < 0
  · rw [if_pos (by simpa using hn), if_pos hn]
  · rw [if_neg (by simpa using hn), if_neg hn]
    have := run4 x0 hm hw.2 x0.length 0 (x1 - x0.length) (by omega) (by omega) (by rw [i64_iff]; omega)
    simpa using this

def S4 : Am.Spec := { sig := sig4, pre := fun ⟨x0, x1, _⟩ => P4 x0 x1, res := fun ⟨x0, x1, _⟩ => [⟨Ty.int .i64, g4_0 x0 x1⟩] }
theorem con4 : Contract Tryz.prog 4 S4 := contract_of Tryz.func4 hb4 (Nat.le_of_ble_eq_true (by kernel_rfl)) (fun ⟨x0, x1, _⟩ h hwf w0 O q =>
  (snd4 _).1 x0 x1 _ (top4 x0 x1 hwf.1 hwf.2.1 h) w0 O q)

end Go.Proofs.YteojabdeehagnaaGreatDoor

/- Function 16 (laws.toBlock): its runs between cut points. Written by a program of this repo (gen). -/
set_option linter.unusedVariables false
set_option linter.unusedSimpArgs false
set_option maxRecDepth 100000
namespace Go.Proofs.YteojabdeehagnaaGreatDoor
open Go Go.Am Go.Proofs
def ext16 : Ext := []
theorem ext16Ok : ExtOk Tryz.prog ext16 := trivial
/-! Function 16. -/
noncomputable def b16 : Code := bodyOf Tryz.f16
theorem hb16 : Tryz.f16.body = some b16 := by kernel_rfl
def sig16 : List AT := [AT.v (Ty.cons Ty.str (Ty.cons Ty.str (Ty.cons Ty.str Ty.unit)))]
def tys16 : List Ty := [Ty.cons Ty.str (Ty.cons Ty.str (Ty.cons Ty.str Ty.unit))]
def P16 (x0 : ByteArray × ByteArray × ByteArray × Unit) : Prop := True
def g16_0 (x0 : ByteArray × ByteArray × ByteArray × Unit) : ByteArray × ByteArray × ByteArray × Unit := (Prod.fst x0, Prod.fst (Prod.snd x0), Prod.fst (Prod.snd (Prod.snd x0)), ())
theorem p16_0 (x0 : ByteArray × ByteArray × ByteArray × Unit) : runF tab ext16 false 14 [] 2000 [] tys16 Tryz.f16.results [] [.code b16] (entE 0 0 sig16 (x0, ())) (entL sig16 (x0, ())) = some ([Dyn.mk (Ty.cons Ty.str (Ty.cons Ty.str (Ty.cons Ty.str Ty.unit))) (Prod.fst x0, Prod.fst (Prod.snd x0), Prod.fst (Prod.snd (Prod.snd x0)), ())], [], []) := by kernel_rfl
theorem at16 (x0 : ByteArray × ByteArray × ByteArray × Unit) (h : P16 x0) (w0 : World) (O : List Nat) (q : Nat → Value) : AtV Tryz.prog 16 (PostR [⟨Ty.cons Ty.str (Ty.cons Ty.str (Ty.cons Ty.str Ty.unit)), g16_0 x0⟩] [] [] q w0 O) 14 w0 O q [] [.code b16] (entE 0 0 sig16 (x0, ())) (entL sig16 (x0, ())) := by
  unfold P16 at h
  unfold g16_0
  exact AtV.fin Tryz.func16 tabOk ext16Ok mixed (p16_0 x0) trivial

def S16 : Am.Spec := { sig := sig16, pre := fun ⟨x0, _⟩ => P16 x0, res := fun ⟨x0, _⟩ => [⟨Ty.cons Ty.str (Ty.cons Ty.str (Ty.cons Ty.str Ty.unit)), g16_0 x0⟩] }
theorem con16 : Contract Tryz.prog 16 S16 := contract_of Tryz.func16 hb16 (Nat.le_of_ble_eq_true (by kernel_rfl)) (fun ⟨x0, _⟩ h _ w0 O q => at16 x0 h w0 O q)


end Go.Proofs.YteojabdeehagnaaGreatDoor

/- Function 6 (laws.toBlockS): its runs between cut points. Written by a program of this repo (gen). -/
set_option linter.unusedVariables false
set_option linter.unusedSimpArgs false
set_option maxRecDepth 100000
namespace Go.Proofs.YteojabdeehagnaaGreatDoor
open Go Go.Am Go.Proofs
def ext6 : Ext := [(16, S16)]
theorem call6_16 : Callable Tryz.prog 16 := ⟨Tryz.f16, Tryz.func16, by kernel_rfl, by kernel_rfl⟩
theorem ext6Ok : ExtOk Tryz.prog ext6 := ⟨⟨call6_16, con16⟩, trivial⟩
/-! Function 6. -/
noncomputable def b6 : Code := bodyOf Tryz.f6
theorem hb6 : Tryz.f6.body = some b6 := by kernel_rfl
def sig6 : List AT := [AT.v (Ty.sl (Ty.cons Ty.str (Ty.cons Ty.str (Ty.cons Ty.str Ty.unit))))]
def tys6 : List Ty := [Ty.sl (Ty.cons Ty.str (Ty.cons Ty.str (Ty.cons Ty.str Ty.unit)))]
def E6_3 (v4 : Int) (h0 : List (ByteArray × ByteArray × ByteArray × Unit)) (x0 : List (ByteArray × ByteArray × ByteArray × Unit)) : Env := [(0, PV.a (Atom.sl (Ty.cons Ty.str (Ty.cons Ty.str (Ty.cons Ty.str Ty.unit))) x0)), (3, PV.a (Atom.osl 0 Option.none)), (4, PV.a (Atom.val (Value.int IntKind.i64 v4)))]
def L6_3 (v4 : Int) (h0 : List (ByteArray × ByteArray × ByteArray × Unit)) (x0 : List (ByteArray × ByteArray × ByteArray × Unit)) : Heap := [Option.some (Arr.mk (Ty.cons Ty.str (Ty.cons Ty.str (Ty.cons Ty.str Ty.unit))) h0 Bool.false)]
mutual
def R6 : Nat → List (ByteArray × ByteArray × ByteArray × Unit) → List Dyn → Prop
  | 0, _, _ => False
  | n + 1, x0, ds => ((0 ≤ (↑(List.length x0) : Int)) ∧ ((↑(List.length x0) : Int) ≤ (↑(List.length x0) : Int)) ∧ (48 * (↑(List.length x0) : Int) ≤ 281474976710656) ∧ (R6_3 n (0) (List.replicate (Int.toNat (↑(List.length x0) : Int)) (ByteArray.empty, ByteArray.empty, ByteArray.empty, ())) (x0) ds))
def R6_3 : Nat → Int → List (ByteArray × ByteArray × ByteArray × Unit) → List (ByteArray × ByteArray × ByteArray × Unit) → List Dyn → Prop
  | 0, _, _, _, _ => False
  | n + 1, v4, h0, x0, ds => (if (Decidable.decide (v4 < (↑(List.length x0) : Int))) = true then ((0 ≤ v4) ∧ (v4 < (↑(List.length x0) : Int)) ∧ ((0 ≤ v4) ∧ (v4 < (↑(List.length h0) : Int)) ∧ ((InR IntKind.i64 (v4 + 1)) ∧ (R6_3 n (v4 + 1) (List.set h0 (Int.toNat v4) (Prod.fst (List.getD x0 (Int.toNat v4) (ByteArray.empty, ByteArray.empty, ByteArray.empty, ())), Prod.fst (Prod.snd (List.getD x0 (Int.toNat v4) (ByteArray.empty, ByteArray.empty, ByteArray.empty, ()))), Prod.fst (Prod.snd (Prod.snd (List.getD x0 (Int.toNat v4) (ByteArray.empty, ByteArray.empty, ByteArray.empty, ())))), ())) (x0) ds)))) else (ds = [Dyn.mk (Ty.sl (Ty.cons Ty.str (Ty.cons Ty.str (Ty.cons Ty.str Ty.unit)))) h0]))
end
theorem p6_0 (x0 : List (ByteArray × ByteArray × ByteArray × Unit)) : Am.runN tab ext6 false 23 [] 2000 [] [] [0, 3, 4] [0] [] [.code b6] (entE 0 0 sig6 (x0, ())) (entL sig6 (x0, ())) = some (cutAt b6 3, E6_3 (0) (List.replicate (Int.toNat (↑(List.length x0) : Int)) (ByteArray.empty, ByteArray.empty, ByteArray.empty, ())) (x0), L6_3 (0) (List.replicate (Int.toNat (↑(List.length x0) : Int)) (ByteArray.empty, ByteArray.empty, ByteArray.empty, ())) (x0), [0 ≤ (↑(List.length x0) : Int), (↑(List.length x0) : Int) ≤ (↑(List.length x0) : Int), 48 * (↑(List.length x0) : Int) ≤ 281474976710656]) := by kernel_rfl
theorem p6_1 (v4 : Int) (h0 : List (ByteArray × ByteArray × ByteArray × Unit)) (x0 : List (ByteArray × ByteArray × ByteArray × Unit)) : Am.runN tab ext6 false 23 [] 2000 [] [] [0, 3, 4] [0] [true] (cutAt b6 3) (E6_3 v4 h0 x0) (L6_3 v4 h0 x0) = some (cutAt b6 3, E6_3 (v4 + 1) (List.set h0 (Int.toNat v4) (Prod.fst (List.getD x0 (Int.toNat v4) (ByteArray.empty, ByteArray.empty, ByteArray.empty, ())), Prod.fst (Prod.snd (List.getD x0 (Int.toNat v4) (ByteArray.empty, ByteArray.empty, ByteArray.empty, ()))), Prod.fst (Prod.snd (Prod.snd (List.getD x0 (Int.toNat v4) (ByteArray.empty, ByteArray.empty, ByteArray.empty, ())))), ())) (x0), L6_3 (v4 + 1) (List.set h0 (Int.toNat v4) (Prod.fst (List.getD x0 (Int.toNat v4) (ByteArray.empty, ByteArray.empty, ByteArray.empty, ())), Prod.fst (Prod.snd (List.getD x0 (Int.toNat v4) (ByteArray.empty, ByteArray.empty, ByteArray.empty, ()))), Prod.fst (Prod.snd (Prod.snd (List.getD x0 (Int.toNat v4) (ByteArray.empty, ByteArray.empty, ByteArray.empty, ())))), ())) (x0), [Decidable.decide (v4 < (↑(List.length x0) : Int)) = Bool.true, 0 ≤ v4, v4 < (↑(List.length x0) : Int), True, 0 ≤ v4, v4 < (↑(List.length h0) : Int), InR IntKind.i64 (v4 + 1)]) := by kernel_rfl
theorem p6_2 (v4 : Int) (h0 : List (ByteArray × ByteArray × ByteArray × Unit)) (x0 : List (ByteArray × ByteArray × ByteArray × Unit)) : runF tab ext6 false 23 [] 2000 [] tys6 Tryz.f6.results [false] (cutAt b6 3) (E6_3 v4 h0 x0) (L6_3 v4 h0 x0) = some ([Dyn.mk (Ty.sl (Ty.cons Ty.str (Ty.cons Ty.str (Ty.cons Ty.str Ty.unit)))) h0], [], [Decidable.decide (v4 < (↑(List.length x0) : Int)) = Bool.false]) := by kernel_rfl
theorem snd6 : ∀ n, (∀ (x0 : List (ByteArray × ByteArray × ByteArray × Unit)) ds, R6 n x0 ds → ∀ w0 O q, AtV Tryz.prog 6 (PostR ds [] [] q w0 O) 23 w0 O q [] [.code b6] (entE 0 0 sig6 (x0, ())) (entL sig6 (x0, ()))) ∧ (∀ (v4 : Int) (h0 : List (ByteArray × ByteArray × ByteArray × Unit)) (x0 : List (ByteArray × ByteArray × ByteArray × Unit)) ds, R6_3 n v4 h0 x0 ds → ∀ w0 O q, AtV Tryz.prog 6 (PostR ds [] [] q w0 O) 23 w0 O q [] (cutAt b6 3) (E6_3 v4 h0 x0) (L6_3 v4 h0 x0)) := by
  intro n
  induction n with
  | zero => exact ⟨fun _ _ h => by simp only [R6] at h, fun _ _ _ _ h => by simp only [R6_3] at h⟩
  | succ n ih =>
  obtain ⟨ih, ih3⟩ := ih
  refine ⟨?_, ?_⟩
  · intro x0 ds h w0 O q
    rw [R6] at h
    obtain ⟨s0, s1, s2, h⟩ := h
    exact AtV.runN tabOk ext6Ok mixed (p6_0 x0) ⟨s0, s1, s2, trivial⟩ (ih3 _ _ _ _ h w0 O q)

  · intro v4 h0 x0 ds h w0 O q
    rw [R6_3] at h
    by_cases b0 : (Decidable.decide (v4 < (↑(List.length x0) : Int))) = true
    · rw [if_pos b0] at h
      obtain ⟨s0, s1, h⟩ := h
      obtain ⟨s2, s3, h⟩ := h
      obtain ⟨s4, h⟩ := h
      exact AtV.runN tabOk ext6Ok mixed (p6_1 v4 h0 x0) ⟨b0, s0, s1, trivial, s2, s3, s4, trivial⟩ (ih3 _ _ _ _ h w0 O q)
    · rw [if_neg b0] at h
      replace b0 := Bool.eq_false_iff.2 b0
      subst h
      exact AtV.fin Tryz.func6 tabOk ext6Ok mixed (p6_2 v4 h0 x0) ⟨b0, trivial⟩



theorem run6 (x0 : List (ByteArray × ByteArray × ByteArray × Unit)) (hm : x0.length ≤ maxLen) : ∀ (k i : Nat), i + k = x0.length →
    R6_3 (k + 1) (i : Int) (x0.take i ++ List.replicate k (ByteArray.empty, ByteArray.empty, ByteArray.empty, ())) x0 [⟨.sl (.cons .str (.cons .str (.cons .str .unit))), x0⟩] := by
  intro k
  induction k with
  | zero =>
    intro i hi
    rw [R6_3, if_neg (by simp; omega), List.take_of_length_le (by omega)]
    simp
  | succ k ih =>
    intro i hi
    rw [R6_3, if_pos (by simp; omega)]
    simp only [Int.toNat_natCast]
    refine ⟨by omega, by omega, by omega, by simp; omega, inR_up hm (by omega), ?_⟩
    have hs := set_step x0 (ByteArray.empty, ByteArray.empty, ByteArray.empty, ()) i (by omega) (k + 1) (by omega)
    have he : ∀ y : ByteArray × ByteArray × ByteArray × Unit, (y.1, y.2.1, y.2.2.1, ()) = y := fun _ => rfl
    rw [he, hs]
    exact ih (i + 1) (by omega)

def g6_0 (x0 : List (ByteArray × ByteArray × ByteArray × Unit)) : List (ByteArray × ByteArray × ByteArray × Unit) := x0
def P6 (x0 : List (ByteArray × ByteArray × ByteArray × Unit)) : Prop := 48 * (x0.length : Int) ≤ 281474976710656
def S6 : Am.Spec := { sig := sig6, pre := fun ⟨x0, _⟩ => P6 x0, res := fun ⟨x0, _⟩ => [⟨.sl (.cons .str (.cons .str (.cons .str .unit))), g6_0 x0⟩] }
theorem con6 : Contract Tryz.prog 6 S6 := contract_of Tryz.func6 hb6 (Nat.le_of_ble_eq_true (by kernel_rfl)) (fun ⟨x0, _⟩ h hwf w0 O q => by
  refine (snd6 (x0.length + 2)).1 x0 _ ?_ w0 O q
  show R6 (x0.length + 1 + 1) x0 [⟨.sl (.cons .str (.cons .str (.cons .str .unit))), x0⟩]
  rw [R6]
  refine ⟨by omega, by omega, h, ?_⟩
  have := run6 x0 hwf.1.1 x0.length 0 (by omega)
  simpa using this)

end Go.Proofs.YteojabdeehagnaaGreatDoor

/- Function 19 (laws.eqCheck): its runs between cut points. Written by a program of this repo (gen). -/
set_option linter.unusedVariables false
set_option linter.unusedSimpArgs false
set_option maxRecDepth 100000
namespace Go.Proofs.YteojabdeehagnaaGreatDoor
open Go Go.Am Go.Proofs
def ext19 : Ext := []
theorem ext19Ok : ExtOk Tryz.prog ext19 := trivial
/-! Function 19. -/
noncomputable def b19 : Code := bodyOf Tryz.f19
theorem hb19 : Tryz.f19.body = some b19 := by kernel_rfl
def sig19 : List AT := [AT.v (Ty.cons Ty.str (Ty.cons (Ty.int IntKind.i64) (Ty.cons (Ty.int IntKind.i64) (Ty.cons (Ty.int IntKind.i64) (Ty.cons (Ty.int IntKind.i64) Ty.unit))))), AT.v (Ty.cons Ty.str (Ty.cons (Ty.int IntKind.i64) (Ty.cons (Ty.int IntKind.i64) (Ty.cons (Ty.int IntKind.i64) (Ty.cons (Ty.int IntKind.i64) Ty.unit)))))]
def tys19 : List Ty := [Ty.bool]
def P19 (x0 : ByteArray × Int × Int × Int × Int × Unit) (x1 : ByteArray × Int × Int × Int × Int × Unit) : Prop := True
def g19_0 (x0 : ByteArray × Int × Int × Int × Int × Unit) (x1 : ByteArray × Int × Int × Int × Int × Unit) : Bool := (if (!ByteArray.toList (Prod.fst x0) == ByteArray.toList (Prod.fst x1)) = true then Bool.false else (if (Prod.fst (Prod.snd x0) != Prod.fst (Prod.snd x1)) = true then Bool.false else (if (Prod.fst (Prod.snd (Prod.snd x0)) != Prod.fst (Prod.snd (Prod.snd x1))) = true then Bool.false else (if (Prod.fst (Prod.snd (Prod.snd (Prod.snd x0))) != Prod.fst (Prod.snd (Prod.snd (Prod.snd x1)))) = true then Bool.false else (if (Prod.fst (Prod.snd (Prod.snd (Prod.snd (Prod.snd x0)))) != Prod.fst (Prod.snd (Prod.snd (Prod.snd (Prod.snd x1))))) = true then Bool.false else Bool.true)))))
theorem p19_0 (x0 : ByteArray × Int × Int × Int × Int × Unit) (x1 : ByteArray × Int × Int × Int × Int × Unit) : runF tab ext19 false 30 [] 2000 [] tys19 Tryz.f19.results [true] [.code b19] (entE 0 0 sig19 (x0, x1, ())) (entL sig19 (x0, x1, ())) = some ([Dyn.mk Ty.bool Bool.false], [], [(!ByteArray.toList (Prod.fst x0) == ByteArray.toList (Prod.fst x1)) = Bool.true]) := by kernel_rfl
theorem p19_1 (x0 : ByteArray × Int × Int × Int × Int × Unit) (x1 : ByteArray × Int × Int × Int × Int × Unit) : runF tab ext19 false 30 [] 2000 [] tys19 Tryz.f19.results [false, true] [.code b19] (entE 0 0 sig19 (x0, x1, ())) (entL sig19 (x0, x1, ())) = some ([Dyn.mk Ty.bool Bool.false], [], [(!ByteArray.toList (Prod.fst x0) == ByteArray.toList (Prod.fst x1)) = Bool.false, (Prod.fst (Prod.snd x0) != Prod.fst (Prod.snd x1)) = Bool.true]) := by kernel_rfl
theorem p19_2 (x0 : ByteArray × Int × Int × Int × Int × Unit) (x1 : ByteArray × Int × Int × Int × Int × Unit) : runF tab ext19 false 30 [] 2000 [] tys19 Tryz.f19.results [false, false, true] [.code b19] (entE 0 0 sig19 (x0, x1, ())) (entL sig19 (x0, x1, ())) = some ([Dyn.mk Ty.bool Bool.false], [], [(!ByteArray.toList (Prod.fst x0) == ByteArray.toList (Prod.fst x1)) = Bool.false, (Prod.fst (Prod.snd x0) != Prod.fst (Prod.snd x1)) = Bool.false, (Prod.fst (Prod.snd (Prod.snd x0)) != Prod.fst (Prod.snd (Prod.snd x1))) = Bool.true]) := by kernel_rfl
theorem p19_3 (x0 : ByteArray × Int × Int × Int × Int × Unit) (x1 : ByteArray × Int × Int × Int × Int × Unit) : runF tab ext19 false 30 [] 2000 [] tys19 Tryz.f19.results [false, false, false, true] [.code b19] (entE 0 0 sig19 (x0, x1, ())) (entL sig19 (x0, x1, ())) = some ([Dyn.mk Ty.bool Bool.false], [], [(!ByteArray.toList (Prod.fst x0) == ByteArray.toList (Prod.fst x1)) = Bool.false, (Prod.fst (Prod.snd x0) != Prod.fst (Prod.snd x1)) = Bool.false, (Prod.fst (Prod.snd (Prod.snd x0)) != Prod.fst (Prod.snd (Prod.snd x1))) = Bool.false, (Prod.fst (Prod.snd (Prod.snd (Prod.snd x0))) != Prod.fst (Prod.snd (Prod.snd (Prod.snd x1)))) = Bool.true]) := by kernel_rfl
theorem p19_4 (x0 : ByteArray × Int × Int × Int × Int × Unit) (x1 : ByteArray × Int × Int × Int × Int × Unit) : runF tab ext19 false 30 [] 2000 [] tys19 Tryz.f19.results [false, false, false, false, true] [.code b19] (entE 0 0 sig19 (x0, x1, ())) (entL sig19 (x0, x1, ())) = some ([Dyn.mk Ty.bool Bool.false], [], [(!ByteArray.toList (Prod.fst x0) == ByteArray.toList (Prod.fst x1)) = Bool.false, (Prod.fst (Prod.snd x0) != Prod.fst (Prod.snd x1)) = Bool.false, (Prod.fst (Prod.snd (Prod.snd x0)) != Prod.fst (Prod.snd (Prod.snd x1))) = Bool.false, (Prod.fst (Prod.snd (Prod.snd (Prod.snd x0))) != Prod.fst (Prod.snd (Prod.snd (Prod.snd x1)))) = Bool.false, (Prod.fst (Prod.snd (Prod.snd (Prod.snd (Prod.snd x0)))) != Prod.fst (Prod.snd (Prod.snd (Prod.snd (Prod.snd x1))))) = Bool.true]) := by kernel_rfl
theorem p19_5 (x0 : ByteArray × Int × Int × Int × Int × Unit) (x1 : ByteArray × Int × Int × Int × Int × Unit) : runF tab ext19 false 30 [] 2000 [] tys19 Tryz.f19.results [false, false, false, false, false] [.code b19] (entE 0 0 sig19 (x0, x1, ())) (entL sig19 (x0, x1, ())) = some ([Dyn.mk Ty.bool Bool.true], [], [(!ByteArray.toList (Prod.fst x0) == ByteArray.toList (Prod.fst x1)) = Bool.false, (Prod.fst (Prod.snd x0) != Prod.fst (Prod.snd x1)) = Bool.false, (Prod.fst (Prod.snd (Prod.snd x0)) != Prod.fst (Prod.snd (Prod.snd x1))) = Bool.false, (Prod.fst (Prod.snd (Prod.snd (Prod.snd x0))) != Prod.fst (Prod.snd (Prod.snd (Prod.snd x1)))) = Bool.false, (Prod.fst (Prod.snd (Prod.snd (Prod.snd (Prod.snd x0)))) != Prod.fst (Prod.snd (Prod.snd (Prod.snd (Prod.snd x1))))) = Bool.false]) := by kernel_rfl
theorem at19 (x0 : ByteArray × Int × Int × Int × Int × Unit) (x1 : ByteArray × Int × Int × Int × Int × Unit) (h : P19 x0 x1) (w0 : World) (O : List Nat) (q : Nat → Value) : AtV Tryz.prog 19 (PostR [⟨Ty.bool, g19_0 x0 x1⟩] [] [] q w0 O) 30 w0 O q [] [.code b19] (entE 0 0 sig19 (x0, x1, ())) (entL sig19 (x0, x1, ())) := by
  unfold P19 at h
  unfold g19_0
  by_cases b0 : (!ByteArray.toList (Prod.fst x0) == ByteArray.toList (Prod.fst x1)) = true
  · try simp only [if_pos b0] at h ⊢
    exact AtV.fin Tryz.func19 tabOk ext19Ok mixed (p19_0 x0 x1) ⟨b0, trivial⟩
  · try simp only [if_neg b0] at h ⊢
    replace b0 := Bool.eq_false_iff.2 b0
    by_cases b1 : (Prod.fst (Prod.snd x0) != Prod.fst (Prod.snd x1)) = true
    · try simp only [if_pos b1] at h ⊢
      exact AtV.fin Tryz.func19 tabOk ext19Ok mixed (p19_1 x0 x1) ⟨b0, b1, trivial⟩
    · try simp only [if_neg b1] at h ⊢
      replace b1 := Bool.eq_false_iff.2 b1
      by_cases b2 : (Prod.fst (Prod.snd (Prod.snd x0)) != Prod.fst (Prod.snd (Prod.snd x1))) = true
      · try simp only [if_pos b2] at h ⊢
        exact AtV.fin Tryz.func19 tabOk ext19Ok mixed (p19_2 x0 x1) ⟨b0, b1, b2, trivial⟩
      · try simp only [if_neg b2] at h ⊢
        replace b2 := Bool.eq_false_iff.2 b2
        by_cases b3 : (Prod.fst (Prod.snd (Prod.snd (Prod.snd x0))) != Prod.fst (Prod.snd (Prod.snd (Prod.snd x1)))) = true
        · try simp only [if_pos b3] at h ⊢
          exact AtV.fin Tryz.func19 tabOk ext19Ok mixed (p19_3 x0 x1) ⟨b0, b1, b2, b3, trivial⟩
        · try simp only [if_neg b3] at h ⊢
          replace b3 := Bool.eq_false_iff.2 b3
          by_cases b4 : (Prod.fst (Prod.snd (Prod.snd (Prod.snd (Prod.snd x0)))) != Prod.fst (Prod.snd (Prod.snd (Prod.snd (Prod.snd x1))))) = true
          · try simp only [if_pos b4] at h ⊢
            exact AtV.fin Tryz.func19 tabOk ext19Ok mixed (p19_4 x0 x1) ⟨b0, b1, b2, b3, b4, trivial⟩
          · try simp only [if_neg b4] at h ⊢
            replace b4 := Bool.eq_false_iff.2 b4
            exact AtV.fin Tryz.func19 tabOk ext19Ok mixed (p19_5 x0 x1) ⟨b0, b1, b2, b3, b4, trivial⟩

def S19 : Am.Spec := { sig := sig19, pre := fun ⟨x0, x1, _⟩ => P19 x0 x1, res := fun ⟨x0, x1, _⟩ => [⟨Ty.bool, g19_0 x0 x1⟩] }
theorem con19 : Contract Tryz.prog 19 S19 := contract_of Tryz.func19 hb19 (Nat.le_of_ble_eq_true (by kernel_rfl)) (fun ⟨x0, x1, _⟩ h _ w0 O q => at19 x0 x1 h w0 O q)


theorem eqd19 (x y : (ByteArray × Int × Int × Int × Int × Unit)) : g19_0 x y = true ↔ x = y := by
  obtain ⟨a, b, c, d, e, u⟩ := x
  obtain ⟨a', b', c', d', e', u'⟩ := y
  unfold g19_0
  simp only [Bool.not_eq_true', bytes_ne, bne_iff_ne, ne_eq, ite_not]
  by_cases h0 : a = a'
  · by_cases h1 : b = b'
    · by_cases h2 : c = c'
      · by_cases h3 : d = d'
        · by_cases h4 : e = e'
          · simp [h0, h1, h2, h3, h4]
          · simp [h0, h1, h2, h3, h4]
        · simp [h0, h1, h2, h3]
      · simp [h0, h1, h2]
    · simp [h0, h1]
  · simp [h0]

end Go.Proofs.YteojabdeehagnaaGreatDoor

/- Function 8 (laws.eqCheckS): its runs between cut points. Written by a program of this repo (gen). -/
set_option linter.unusedVariables false
set_option linter.unusedSimpArgs false
set_option maxRecDepth 100000
namespace Go.Proofs.YteojabdeehagnaaGreatDoor
open Go Go.Am Go.Proofs
def ext8 : Ext := [(19, S19)]
theorem call8_19 : Callable Tryz.prog 19 := ⟨Tryz.f19, Tryz.func19, by kernel_rfl, by kernel_rfl⟩
theorem ext8Ok : ExtOk Tryz.prog ext8 := ⟨⟨call8_19, con19⟩, trivial⟩
/-! Function 8. -/
noncomputable def b8 : Code := bodyOf Tryz.f8
theorem hb8 : Tryz.f8.body = some b8 := by kernel_rfl
def sig8 : List AT := [AT.v (Ty.sl (Ty.cons Ty.str (Ty.cons (Ty.int IntKind.i64) (Ty.cons (Ty.int IntKind.i64) (Ty.cons (Ty.int IntKind.i64) (Ty.cons (Ty.int IntKind.i64) Ty.unit)))))), AT.v (Ty.sl (Ty.cons Ty.str (Ty.cons (Ty.int IntKind.i64) (Ty.cons (Ty.int IntKind.i64) (Ty.cons (Ty.int IntKind.i64) (Ty.cons (Ty.int IntKind.i64) Ty.unit))))))]
def tys8 : List Ty := [Ty.bool]
def E8_4 (v5 : Int) (x0 : List (ByteArray × Int × Int × Int × Int × Unit)) (x1 : List (ByteArray × Int × Int × Int × Int × Unit)) : Env := [(0, PV.a (Atom.sl (Ty.cons Ty.str (Ty.cons (Ty.int IntKind.i64) (Ty.cons (Ty.int IntKind.i64) (Ty.cons (Ty.int IntKind.i64) (Ty.cons (Ty.int IntKind.i64) Ty.unit))))) x0)), (1, PV.a (Atom.sl (Ty.cons Ty.str (Ty.cons (Ty.int IntKind.i64) (Ty.cons (Ty.int IntKind.i64) (Ty.cons (Ty.int IntKind.i64) (Ty.cons (Ty.int IntKind.i64) Ty.unit))))) x1)), (5, PV.a (Atom.val (Value.int IntKind.i64 v5)))]
def L8_4 (v5 : Int) (x0 : List (ByteArray × Int × Int × Int × Int × Unit)) (x1 : List (ByteArray × Int × Int × Int × Int × Unit)) : Heap := []
mutual
def R8 : Nat → List (ByteArray × Int × Int × Int × Int × Unit) → List (ByteArray × Int × Int × Int × Int × Unit) → List Dyn → Prop
  | 0, _, _, _ => False
  | n + 1, x0, x1, ds => (if ((↑(List.length x0) : Int) != (↑(List.length x1) : Int)) = true then (ds = [Dyn.mk Ty.bool Bool.false]) else (R8_4 n (0) (x0) (x1) ds))
def R8_4 : Nat → Int → List (ByteArray × Int × Int × Int × Int × Unit) → List (ByteArray × Int × Int × Int × Int × Unit) → List Dyn → Prop
  | 0, _, _, _, _ => False
  | n + 1, v5, x0, x1, ds => (if (Decidable.decide (v5 < (↑(List.length x0) : Int))) = true then ((0 ≤ v5) ∧ (v5 < (↑(List.length x0) : Int)) ∧ ((0 ≤ v5) ∧ (v5 < (↑(List.length x1) : Int)) ∧ (if (!g19_0 (List.getD x0 (Int.toNat v5) (ByteArray.empty, 0, 0, 0, 0, ())) (List.getD x1 (Int.toNat v5) (ByteArray.empty, 0, 0, 0, 0, ()))) = true then (ds = [Dyn.mk Ty.bool Bool.false]) else ((InR IntKind.i64 (v5 + 1)) ∧ (R8_4 n (v5 + 1) (x0) (x1) ds))))) else (ds = [Dyn.mk Ty.bool Bool.true]))
end
theorem p8_0 (x0 : List (ByteArray × Int × Int × Int × Int × Unit)) (x1 : List (ByteArray × Int × Int × Int × Int × Unit)) : runF tab ext8 false 27 [] 2000 [] tys8 Tryz.f8.results [true] [.code b8] (entE 0 0 sig8 (x0, x1, ())) (entL sig8 (x0, x1, ())) = some ([Dyn.mk Ty.bool Bool.false], [], [((↑(List.length x0) : Int) != (↑(List.length x1) : Int)) = Bool.true]) := by kernel_rfl
theorem p8_1 (x0 : List (ByteArray × Int × Int × Int × Int × Unit)) (x1 : List (ByteArray × Int × Int × Int × Int × Unit)) : Am.runN tab ext8 false 27 [] 2000 [] [] [0, 1, 5] [] [false] [.code b8] (entE 0 0 sig8 (x0, x1, ())) (entL sig8 (x0, x1, ())) = some (cutAt b8 4, E8_4 (0) (x0) (x1), L8_4 (0) (x0) (x1), [((↑(List.length x0) : Int) != (↑(List.length x1) : Int)) = Bool.false]) := by kernel_rfl
theorem p8_2 (v5 : Int) (x0 : List (ByteArray × Int × Int × Int × Int × Unit)) (x1 : List (ByteArray × Int × Int × Int × Int × Unit)) : runF tab ext8 false 27 [] 2000 [] tys8 Tryz.f8.results [true, true] (cutAt b8 4) (E8_4 v5 x0 x1) (L8_4 v5 x0 x1) = some ([Dyn.mk Ty.bool Bool.false], [], [Decidable.decide (v5 < (↑(List.length x0) : Int)) = Bool.true, 0 ≤ v5, v5 < (↑(List.length x0) : Int), 0 ≤ v5, v5 < (↑(List.length x1) : Int), True, (!g19_0 (List.getD x0 (Int.toNat v5) (ByteArray.empty, 0, 0, 0, 0, ())) (List.getD x1 (Int.toNat v5) (ByteArray.empty, 0, 0, 0, 0, ()))) = Bool.true]) := by kernel_rfl
theorem p8_3 (v5 : Int) (x0 : List (ByteArray × Int × Int × Int × Int × Unit)) (x1 : List (ByteArray × Int × Int × Int × Int × Unit)) : Am.runN tab ext8 false 27 [] 2000 [] [] [0, 1, 5] [] [true, false] (cutAt b8 4) (E8_4 v5 x0 x1) (L8_4 v5 x0 x1) = some (cutAt b8 4, E8_4 (v5 + 1) (x0) (x1), L8_4 (v5 + 1) (x0) (x1), [Decidable.decide (v5 < (↑(List.length x0) : Int)) = Bool.true, 0 ≤ v5, v5 < (↑(List.length x0) : Int), 0 ≤ v5, v5 < (↑(List.length x1) : Int), True, (!g19_0 (List.getD x0 (Int.toNat v5) (ByteArray.empty, 0, 0, 0, 0, ())) (List.getD x1 (Int.toNat v5) (ByteArray.empty, 0, 0, 0, 0, ()))) = Bool.false, InR IntKind.i64 (v5 + 1)]) := by kernel_rfl
theorem p8_4 (v5 : Int) (x0 : List (ByteArray × Int × Int × Int × Int × Unit)) (x1 : List (ByteArray × Int × Int × Int × Int × Unit)) : runF tab ext8 false 27 [] 2000 [] tys8 Tryz.f8.results [false] (cutAt b8 4) (E8_4 v5 x0 x1) (L8_4 v5 x0 x1) = some ([Dyn.mk Ty.bool Bool.true], [], [Decidable.decide (v5 < (↑(List.length x0) : Int)) = Bool.false]) := by kernel_rfl
theorem snd8 : ∀ n, (∀ (x0 : List (ByteArray × Int × Int × Int × Int × Unit)) (x1 : List (ByteArray × Int × Int × Int × Int × Unit)) ds, R8 n x0 x1 ds → ∀ w0 O q, AtV Tryz.prog 8 (PostR ds [] [] q w0 O) 27 w0 O q [] [.code b8] (entE 0 0 sig8 (x0, x1, ())) (entL sig8 (x0, x1, ()))) ∧ (∀ (v5 : Int) (x0 : List (ByteArray × Int × Int × Int × Int × Unit)) (x1 : List (ByteArray × Int × Int × Int × Int × Unit)) ds, R8_4 n v5 x0 x1 ds → ∀ w0 O q, AtV Tryz.prog 8 (PostR ds [] [] q w0 O) 27 w0 O q [] (cutAt b8 4) (E8_4 v5 x0 x1) (L8_4 v5 x0 x1)) := by
  intro n
  induction n with
  | zero => exact ⟨fun _ _ _ h => by simp only [R8] at h, fun _ _ _ _ h => by simp only [R8_4] at h⟩
  | succ n ih =>
  obtain ⟨ih, ih4⟩ := ih
  refine ⟨?_, ?_⟩
  · intro x0 x1 ds h w0 O q
    rw [R8] at h
    by_cases b0 : ((↑(List.length x0) : Int) != (↑(List.length x1) : Int)) = true
    · rw [if_pos b0] at h
      subst h
      exact AtV.fin Tryz.func8 tabOk ext8Ok mixed (p8_0 x0 x1) ⟨b0, trivial⟩
    · rw [if_neg b0] at h
      replace b0 := Bool.eq_false_iff.2 b0
      exact AtV.runN tabOk ext8Ok mixed (p8_1 x0 x1) ⟨b0, trivial⟩ (ih4 _ _ _ _ h w0 O q)

  · intro v5 x0 x1 ds h w0 O q
    rw [R8_4] at h
    by_cases b0 : (Decidable.decide (v5 < (↑(List.length x0) : Int))) = true
    · rw [if_pos b0] at h
      obtain ⟨s0, s1, h⟩ := h
      obtain ⟨s2, s3, h⟩ := h
      by_cases b1 : (!g19_0 (List.getD x0 (Int.toNat v5) (ByteArray.empty, 0, 0, 0, 0, ())) (List.getD x1 (Int.toNat v5) (ByteArray.empty, 0, 0, 0, 0, ()))) = true
      · rw [if_pos b1] at h
        subst h
        exact AtV.fin Tryz.func8 tabOk ext8Ok mixed (p8_2 v5 x0 x1) ⟨b0, s0, s1, s2, s3, trivial, b1, trivial⟩
      · rw [if_neg b1] at h
        replace b1 := Bool.eq_false_iff.2 b1
        obtain ⟨s4, h⟩ := h
        exact AtV.runN tabOk ext8Ok mixed (p8_3 v5 x0 x1) ⟨b0, s0, s1, s2, s3, trivial, b1, s4, trivial⟩ (ih4 _ _ _ _ h w0 O q)
    · rw [if_neg b0] at h
      replace b0 := Bool.eq_false_iff.2 b0
      subst h
      exact AtV.fin Tryz.func8 tabOk ext8Ok mixed (p8_4 v5 x0 x1) ⟨b0, trivial⟩



theorem eq8 (x0 x1 : List (ByteArray × Int × Int × Int × Int × Unit)) (hl : x0.length = x1.length) (hm : x0.length ≤ maxLen) : ∀ k i : Nat, i + k = x0.length → R8_4 (k + 1) (i : Int) x0 x1 [⟨.bool, decide (x0.drop i = x1.drop i)⟩] := by
  intro k
  induction k with
  | zero =>
    intro i hi
    have h1 : ¬ (i : Int) < (x0.length : Int) := by omega
    rw [R8_4, if_neg (by simpa using h1), drop_end x0 i (by omega), drop_end x1 i (by omega)]
    simp
  | succ k ih =>
    intro i hi
    have h1 : (i : Int) < (x0.length : Int) := by omega
    rw [R8_4, if_pos (by simpa using h1)]
    refine ⟨by omega, h1, by omega, by omega, ?_⟩
    simp only [Int.toNat_natCast]
    rw [drop_get x0 i (ByteArray.empty, (0 : Int), (0 : Int), (0 : Int), (0 : Int), ()) (by omega), drop_get x1 i (ByteArray.empty, (0 : Int), (0 : Int), (0 : Int), (0 : Int), ()) (by omega)]
    by_cases he : x0.getD i (ByteArray.empty, (0 : Int), (0 : Int), (0 : Int), (0 : Int), ()) = x1.getD i (ByteArray.empty, (0 : Int), (0 : Int), (0 : Int), (0 : Int), ())
    · have hd := (eqd19 _ _).2 he
      rw [if_neg (by rw [hd]; simp)]
      refine ⟨inR_up hm (by omega), ?_⟩
      have := ih (i + 1) (by omega)
      simp only [he, List.cons.injEq, true_and]
      exact this
    · have hd : g19_0 (x0.getD i (ByteArray.empty, (0 : Int), (0 : Int), (0 : Int), (0 : Int), ())) (x1.getD i (ByteArray.empty, (0 : Int), (0 : Int), (0 : Int), (0 : Int), ())) = false :=
        Bool.eq_false_iff.2 fun h => he ((eqd19 _ _).1 h)
      rw [if_pos (by rw [hd]; rfl)]
      simp only [he, List.cons.injEq, false_and, decide_false]

def g8_0 (x0 x1 : List (ByteArray × Int × Int × Int × Int × Unit)) : Bool := decide (x0 = x1)
def P8 (x0 x1 : List (ByteArray × Int × Int × Int × Int × Unit)) : Prop := True
def S8 : Am.Spec := { sig := sig8, pre := fun ⟨x0, x1, _⟩ => P8 x0 x1, res := fun ⟨x0, x1, _⟩ => [⟨Ty.bool, g8_0 x0 x1⟩] }
theorem con8 : Contract Tryz.prog 8 S8 := contract_of Tryz.func8 hb8 (Nat.le_of_ble_eq_true (by kernel_rfl)) (fun ⟨x0, x1, _⟩ h hwf w0 O q => by
  refine (snd8 (x0.length + 2)).1 x0 x1 _ ?_ w0 O q
  show R8 (x0.length + 1 + 1) x0 x1 [⟨Ty.bool, decide (x0 = x1)⟩]
  rw [R8]
  by_cases hl : x0.length = x1.length
  · rw [if_neg (by simp [hl])]
    have := eq8 x0 x1 hl hwf.1.1 x0.length 0 (by omega)
    simpa using this
  · rw [if_pos (by simp; omega)]
    have : x0 ≠ x1 := fun h => hl (by rw [h])
    simp [this])

end Go.Proofs.YteojabdeehagnaaGreatDoor

/- Function 20 (laws.eqBlock): its runs between cut points. Written by a program of this repo (gen). -/
set_option linter.unusedVariables false
set_option linter.unusedSimpArgs false
set_option maxRecDepth 100000
namespace Go.Proofs.YteojabdeehagnaaGreatDoor
open Go Go.Am Go.Proofs
def ext20 : Ext := []
theorem ext20Ok : ExtOk Tryz.prog ext20 := trivial
/-! Function 20. -/
noncomputable def b20 : Code := bodyOf Tryz.f20
theorem hb20 : Tryz.f20.body = some b20 := by kernel_rfl
def sig20 : List AT := [AT.v (Ty.cons Ty.str (Ty.cons Ty.str (Ty.cons Ty.str Ty.unit))), AT.v (Ty.cons Ty.str (Ty.cons Ty.str (Ty.cons Ty.str Ty.unit)))]
def tys20 : List Ty := [Ty.bool]
def P20 (x0 : ByteArray × ByteArray × ByteArray × Unit) (x1 : ByteArray × ByteArray × ByteArray × Unit) : Prop := True
def g20_0 (x0 : ByteArray × ByteArray × ByteArray × Unit) (x1 : ByteArray × ByteArray × ByteArray × Unit) : Bool := (if (!ByteArray.toList (Prod.fst x0) == ByteArray.toList (Prod.fst x1)) = true then Bool.false else (if (!ByteArray.toList (Prod.fst (Prod.snd x0)) == ByteArray.toList (Prod.fst (Prod.snd x1))) = true then Bool.false else (if (!ByteArray.toList (Prod.fst (Prod.snd (Prod.snd x0))) == ByteArray.toList (Prod.fst (Prod.snd (Prod.snd x1)))) = true then Bool.false else Bool.true)))
theorem p20_0 (x0 : ByteArray × ByteArray × ByteArray × Unit) (x1 : ByteArray × ByteArray × ByteArray × Unit) : runF tab ext20 false 20 [] 2000 [] tys20 Tryz.f20.results [true] [.code b20] (entE 0 0 sig20 (x0, x1, ())) (entL sig20 (x0, x1, ())) = some ([Dyn.mk Ty.bool Bool.false], [], [(!ByteArray.toList (Prod.fst x0) == ByteArray.toList (Prod.fst x1)) = Bool.true]) := by kernel_rfl
theorem p20_1 (x0 : ByteArray × ByteArray × ByteArray × Unit) (x1 : ByteArray × ByteArray × ByteArray × Unit) : runF tab ext20 false 20 [] 2000 [] tys20 Tryz.f20.results [false, true] [.code b20] (entE 0 0 sig20 (x0, x1, ())) (entL sig20 (x0, x1, ())) = some ([Dyn.mk Ty.bool Bool.false], [], [(!ByteArray.toList (Prod.fst x0) == ByteArray.toList (Prod.fst x1)) = Bool.false, (!ByteArray.toList (Prod.fst (Prod.snd x0)) == ByteArray.toList (Prod.fst (Prod.snd x1))) = Bool.true]) := by kernel_rfl
theorem p20_2 (x0 : ByteArray × ByteArray × ByteArray × Unit) (x1 : ByteArray × ByteArray × ByteArray × Unit) : runF tab ext20 false 20 [] 2000 [] tys20 Tryz.f20.results [false, false, true] [.code b20] (entE 0 0 sig20 (x0, x1, ())) (entL sig20 (x0, x1, ())) = some ([Dyn.mk Ty.bool Bool.false], [], [(!ByteArray.toList (Prod.fst x0) == ByteArray.toList (Prod.fst x1)) = Bool.false, (!ByteArray.toList (Prod.fst (Prod.snd x0)) == ByteArray.toList (Prod.fst (Prod.snd x1))) = Bool.false, (!ByteArray.toList (Prod.fst (Prod.snd (Prod.snd x0))) == ByteArray.toList (Prod.fst (Prod.snd (Prod.snd x1)))) = Bool.true]) := by kernel_rfl
theorem p20_3 (x0 : ByteArray × ByteArray × ByteArray × Unit) (x1 : ByteArray × ByteArray × ByteArray × Unit) : runF tab ext20 false 20 [] 2000 [] tys20 Tryz.f20.results [false, false, false] [.code b20] (entE 0 0 sig20 (x0, x1, ())) (entL sig20 (x0, x1, ())) = some ([Dyn.mk Ty.bool Bool.true], [], [(!ByteArray.toList (Prod.fst x0) == ByteArray.toList (Prod.fst x1)) = Bool.false, (!ByteArray.toList (Prod.fst (Prod.snd x0)) == ByteArray.toList (Prod.fst (Prod.snd x1))) = Bool.false, (!ByteArray.toList (Prod.fst (Prod.snd (Prod.snd x0))) == ByteArray.toList (Prod.fst (Prod.snd (Prod.snd x1)))) = Bool.false]) := by kernel_rfl
theorem at20 (x0 : ByteArray × ByteArray × ByteArray × Unit) (x1 : ByteArray × ByteArray × ByteArray × Unit) (h : P20 x0 x1) (w0 : World) (O : List Nat) (q : Nat → Value) : AtV Tryz.prog 20 (PostR [⟨Ty.bool, g20_0 x0 x1⟩] [] [] q w0 O) 20 w0 O q [] [.code b20] (entE 0 0 sig20 (x0, x1, ())) (entL sig20 (x0, x1, ())) := by
  unfold P20 at h
  unfold g20_0
  by_cases b0 : (!ByteArray.toList (Prod.fst x0) == ByteArray.toList (Prod.fst x1)) = true
  · try simp only [if_pos b0] at h ⊢
    exact AtV.fin Tryz.func20 tabOk ext20Ok mixed (p20_0 x0 x1) ⟨b0, trivial⟩
  · try simp only [if_neg b0] at h ⊢
    replace b0 := Bool.eq_false_iff.2 b0
    by_cases b1 : (!ByteArray.toList (Prod.fst (Prod.snd x0)) == ByteArray.toList (Prod.fst (Prod.snd x1))) = true
    · try simp only [if_pos b1] at h ⊢
      exact AtV.fin Tryz.func20 tabOk ext20Ok mixed (p20_1 x0 x1) ⟨b0, b1, trivial⟩
    · try simp only [if_neg b1] at h ⊢
      replace b1 := Bool.eq_false_iff.2 b1
      by_cases b2 : (!ByteArray.toList (Prod.fst (Prod.snd (Prod.snd x0))) == ByteArray.toList (Prod.fst (Prod.snd (Prod.snd x1)))) = true
      · try simp only [if_pos b2] at h ⊢
        exact AtV.fin Tryz.func20 tabOk ext20Ok mixed (p20_2 x0 x1) ⟨b0, b1, b2, trivial⟩
      · try simp only [if_neg b2] at h ⊢
        replace b2 := Bool.eq_false_iff.2 b2
        exact AtV.fin Tryz.func20 tabOk ext20Ok mixed (p20_3 x0 x1) ⟨b0, b1, b2, trivial⟩

def S20 : Am.Spec := { sig := sig20, pre := fun ⟨x0, x1, _⟩ => P20 x0 x1, res := fun ⟨x0, x1, _⟩ => [⟨Ty.bool, g20_0 x0 x1⟩] }
theorem con20 : Contract Tryz.prog 20 S20 := contract_of Tryz.func20 hb20 (Nat.le_of_ble_eq_true (by kernel_rfl)) (fun ⟨x0, x1, _⟩ h _ w0 O q => at20 x0 x1 h w0 O q)


theorem eqd20 (x y : ByteArray × ByteArray × ByteArray × Unit) : g20_0 x y = true ↔ x = y := by
  obtain ⟨a, b, c, u⟩ := x
  obtain ⟨a', b', c', u'⟩ := y
  unfold g20_0
  simp only [Bool.not_eq_true', bytes_ne]
  by_cases h1 : a = a'
  · by_cases h2 : b = b'
    · by_cases h3 : c = c'
      · simp [h1, h2, h3]
      · simp [h1, h2, h3]
    · simp [h1, h2]
  · simp [h1]

end Go.Proofs.YteojabdeehagnaaGreatDoor

/- Function 9 (laws.eqBlockS): its runs between cut points. Written by a program of this repo (gen). -/
set_option linter.unusedVariables false
set_option linter.unusedSimpArgs false
set_option maxRecDepth 100000
namespace Go.Proofs.YteojabdeehagnaaGreatDoor
open Go Go.Am Go.Proofs
def ext9 : Ext := [(20, S20)]
theorem call9_20 : Callable Tryz.prog 20 := ⟨Tryz.f20, Tryz.func20, by kernel_rfl, by kernel_rfl⟩
theorem ext9Ok : ExtOk Tryz.prog ext9 := ⟨⟨call9_20, con20⟩, trivial⟩
/-! Function 9. -/
noncomputable def b9 : Code := bodyOf Tryz.f9
theorem hb9 : Tryz.f9.body = some b9 := by kernel_rfl
def sig9 : List AT := [AT.v (Ty.sl (Ty.cons Ty.str (Ty.cons Ty.str (Ty.cons Ty.str Ty.unit)))), AT.v (Ty.sl (Ty.cons Ty.str (Ty.cons Ty.str (Ty.cons Ty.str Ty.unit))))]
def tys9 : List Ty := [Ty.bool]
def E9_4 (v5 : Int) (x0 : List (ByteArray × ByteArray × ByteArray × Unit)) (x1 : List (ByteArray × ByteArray × ByteArray × Unit)) : Env := [(0, PV.a (Atom.sl (Ty.cons Ty.str (Ty.cons Ty.str (Ty.cons Ty.str Ty.unit))) x0)), (1, PV.a (Atom.sl (Ty.cons Ty.str (Ty.cons Ty.str (Ty.cons Ty.str Ty.unit))) x1)), (5, PV.a (Atom.val (Value.int IntKind.i64 v5)))]
def L9_4 (v5 : Int) (x0 : List (ByteArray × ByteArray × ByteArray × Unit)) (x1 : List (ByteArray × ByteArray × ByteArray × Unit)) : Heap := []
mutual
def R9 : Nat → List (ByteArray × ByteArray × ByteArray × Unit) → List (ByteArray × ByteArray × ByteArray × Unit) → List Dyn → Prop
  | 0, _, _, _ => False
  | n + 1, x0, x1, ds => (if ((↑(List.length x0) : Int) != (↑(List.length x1) : Int)) = true then (ds = [Dyn.mk Ty.bool Bool.false]) else (R9_4 n (0) (x0) (x1) ds))
def R9_4 : Nat → Int → List (ByteArray × ByteArray × ByteArray × Unit) → List (ByteArray × ByteArray × ByteArray × Unit) → List Dyn → Prop
  | 0, _, _, _, _ => False
  | n + 1, v5, x0, x1, ds => (if (Decidable.decide (v5 < (↑(List.length x0) : Int))) = true then ((0 ≤ v5) ∧ (v5 < (↑(List.length x0) : Int)) ∧ ((0 ≤ v5) ∧ (v5 < (↑(List.length x1) : Int)) ∧ (if (!g20_0 (List.getD x0 (Int.toNat v5) (ByteArray.empty, ByteArray.empty, ByteArray.empty, ())) (List.getD x1 (Int.toNat v5) (ByteArray.empty, ByteArray.empty, ByteArray.empty, ()))) = true then (ds = [Dyn.mk Ty.bool Bool.false]) else ((InR IntKind.i64 (v5 + 1)) ∧ (R9_4 n (v5 + 1) (x0) (x1) ds))))) else (ds = [Dyn.mk Ty.bool Bool.true]))
end
theorem p9_0 (x0 : List (ByteArray × ByteArray × ByteArray × Unit)) (x1 : List (ByteArray × ByteArray × ByteArray × Unit)) : runF tab ext9 false 27 [] 2000 [] tys9 Tryz.f9.results [true] [.code b9] (entE 0 0 sig9 (x0, x1, ())) (entL sig9 (x0, x1, ())) = some ([Dyn.mk Ty.bool Bool.false], [], [((↑(List.length x0) : Int) != (↑(List.length x1) : Int)) = Bool.true]) := by kernel_rfl
theorem p9_1 (x0 : List (ByteArray × ByteArray × ByteArray × Unit)) (x1 : List (ByteArray × ByteArray × ByteArray × Unit)) : Am.runN tab ext9 false 27 [] 2000 [] [] [0, 1, 5] [] [false] [.code b9] (entE 0 0 sig9 (x0, x1, ())) (entL sig9 (x0, x1, ())) = some (cutAt b9 4, E9_4 (0) (x0) (x1), L9_4 (0) (x0) (x1), [((↑(List.length x0) : Int) != (↑(List.length x1) : Int)) = Bool.false]) := by kernel_rfl
theorem p9_2 (v5 : Int) (x0 : List (ByteArray × ByteArray × ByteArray × Unit)) (x1 : List (ByteArray × ByteArray × ByteArray × Unit)) : runF tab ext9 false 27 [] 2000 [] tys9 Tryz.f9.results [true, true] (cutAt b9 4) (E9_4 v5 x0 x1) (L9_4 v5 x0 x1) = some ([Dyn.mk Ty.bool Bool.false], [], [Decidable.decide (v5 < (↑(List.length x0) : Int)) = Bool.true, 0 ≤ v5, v5 < (↑(List.length x0) : Int), 0 ≤ v5, v5 < (↑(List.length x1) : Int), True, (!g20_0 (List.getD x0 (Int.toNat v5) (ByteArray.empty, ByteArray.empty, ByteArray.empty, ())) (List.getD x1 (Int.toNat v5) (ByteArray.empty, ByteArray.empty, ByteArray.empty, ()))) = Bool.true]) := by kernel_rfl
theorem p9_3 (v5 : Int) (x0 : List (ByteArray × ByteArray × ByteArray × Unit)) (x1 : List (ByteArray × ByteArray × ByteArray × Unit)) : Am.runN tab ext9 false 27 [] 2000 [] [] [0, 1, 5] [] [true, false] (cutAt b9 4) (E9_4 v5 x0 x1) (L9_4 v5 x0 x1) = some (cutAt b9 4, E9_4 (v5 + 1) (x0) (x1), L9_4 (v5 + 1) (x0) (x1), [Decidable.decide (v5 < (↑(List.length x0) : Int)) = Bool.true, 0 ≤ v5, v5 < (↑(List.length x0) : Int), 0 ≤ v5, v5 < (↑(List.length x1) : Int), True, (!g20_0 (List.getD x0 (Int.toNat v5) (ByteArray.empty, ByteArray.empty, ByteArray.empty, ())) (List.getD x1 (Int.toNat v5) (ByteArray.empty, ByteArray.empty, ByteArray.empty, ()))) = Bool.false, InR IntKind.i64 (v5 + 1)]) := by kernel_rfl
theorem p9_4 (v5 : Int) (x0 : List (ByteArray × ByteArray × ByteArray × Unit)) (x1 : List (ByteArray × ByteArray × ByteArray × Unit)) : runF tab ext9 false 27 [] 2000 [] tys9 Tryz.f9.results [false] (cutAt b9 4) (E9_4 v5 x0 x1) (L9_4 v5 x0 x1) = some ([Dyn.mk Ty.bool Bool.true], [], [Decidable.decide (v5 < (↑(List.length x0) : Int)) = Bool.false]) := by kernel_rfl
theorem snd9 : ∀ n, (∀ (x0 : List (ByteArray × ByteArray × ByteArray × Unit)) (x1 : List (ByteArray × ByteArray × ByteArray × Unit)) ds, R9 n x0 x1 ds → ∀ w0 O q, AtV Tryz.prog 9 (PostR ds [] [] q w0 O) 27 w0 O q [] [.code b9] (entE 0 0 sig9 (x0, x1, ())) (entL sig9 (x0, x1, ()))) ∧ (∀ (v5 : Int) (x0 : List (ByteArray × ByteArray × ByteArray × Unit)) (x1 : List (ByteArray × ByteArray × ByteArray × Unit)) ds, R9_4 n v5 x0 x1 ds → ∀ w0 O q, AtV Tryz.prog 9 (PostR ds [] [] q w0 O) 27 w0 O q [] (cutAt b9 4) (E9_4 v5 x0 x1) (L9_4 v5 x0 x1)) := by
  intro n
  induction n with
  | zero => exact ⟨fun _ _ _ h => by simp only [R9] at h, fun _ _ _ _ h => by simp only [R9_4] at h⟩
  | succ n ih =>
  obtain ⟨ih, ih4⟩ := ih
  refine ⟨?_, ?_⟩
  · intro x0 x1 ds h w0 O q
    rw [R9] at h
    by_cases b0 : ((↑(List.length x0) : Int) != (↑(List.length x1) : Int)) = true
    · rw [if_pos b0] at h
      subst h
      exact AtV.fin Tryz.func9 tabOk ext9Ok mixed (p9_0 x0 x1) ⟨b0, trivial⟩
    · rw [if_neg b0] at h
      replace b0 := Bool.eq_false_iff.2 b0
      exact AtV.runN tabOk ext9Ok mixed (p9_1 x0 x1) ⟨b0, trivial⟩ (ih4 _ _ _ _ h w0 O q)

  · intro v5 x0 x1 ds h w0 O q
    rw [R9_4] at h
    by_cases b0 : (Decidable.decide (v5 < (↑(List.length x0) : Int))) = true
    · rw [if_pos b0] at h
      obtain ⟨s0, s1, h⟩ := h
      obtain ⟨s2, s3, h⟩ := h
      by_cases b1 : (!g20_0 (List.getD x0 (Int.toNat v5) (ByteArray.empty, ByteArray.empty, ByteArray.empty, ())) (List.getD x1 (Int.toNat v5) (ByteArray.empty, ByteArray.empty, ByteArray.empty, ()))) = true
      · rw [if_pos b1] at h
        subst h
        exact AtV.fin Tryz.func9 tabOk ext9Ok mixed (p9_2 v5 x0 x1) ⟨b0, s0, s1, s2, s3, trivial, b1, trivial⟩
      · rw [if_neg b1] at h
        replace b1 := Bool.eq_false_iff.2 b1
        obtain ⟨s4, h⟩ := h
        exact AtV.runN tabOk ext9Ok mixed (p9_3 v5 x0 x1) ⟨b0, s0, s1, s2, s3, trivial, b1, s4, trivial⟩ (ih4 _ _ _ _ h w0 O q)
    · rw [if_neg b0] at h
      replace b0 := Bool.eq_false_iff.2 b0
      subst h
      exact AtV.fin Tryz.func9 tabOk ext9Ok mixed (p9_4 v5 x0 x1) ⟨b0, trivial⟩



theorem eq9 (x0 x1 : List (ByteArray × ByteArray × ByteArray × Unit)) (hl : x0.length = x1.length) (hm : x0.length ≤ maxLen) : ∀ k i : Nat, i + k = x0.length → R9_4 (k + 1) (i : Int) x0 x1 [⟨.bool, decide (x0.drop i = x1.drop i)⟩] := by
  intro k
  induction k with
  | zero =>
    intro i hi
    have h1 : ¬ (i : Int) < (x0.length : Int) := by omega
    rw [R9_4, if_neg (by simpa using h1), drop_end x0 i (by omega), drop_end x1 i (by omega)]
    simp
  | succ k ih =>
    intro i hi
    have h1 : (i : Int) < (x0.length : Int) := by omega
    rw [R9_4, if_pos (by simpa using h1)]
    refine ⟨by omega, h1, by omega, by omega, ?_⟩
    simp only [Int.toNat_natCast]
    rw [drop_get x0 i (ByteArray.empty, ByteArray.empty, ByteArray.empty, ()) (by omega), drop_get x1 i (ByteArray.empty, ByteArray.empty, ByteArray.empty, ()) (by omega)]
    by_cases he : x0.getD i (ByteArray.empty, ByteArray.empty, ByteArray.empty, ()) = x1.getD i (ByteArray.empty, ByteArray.empty, ByteArray.empty, ())
    · have hd := (eqd20 _ _).2 he
      rw [if_neg (by rw [hd]; simp)]
      refine ⟨inR_up hm (by omega), ?_⟩
      have := ih (i + 1) (by omega)
      simp only [he, List.cons.injEq, true_and]
      exact this
    · have hd : g20_0 (x0.getD i (ByteArray.empty, ByteArray.empty, ByteArray.empty, ())) (x1.getD i (ByteArray.empty, ByteArray.empty, ByteArray.empty, ())) = false :=
        Bool.eq_false_iff.2 fun h => he ((eqd20 _ _).1 h)
      rw [if_pos (by rw [hd]; rfl)]
      simp only [he, List.cons.injEq, false_and, decide_false]

def g9_0 (x0 x1 : List (ByteArray × ByteArray × ByteArray × Unit)) : Bool := decide (x0 = x1)
def P9 (x0 x1 : List (ByteArray × ByteArray × ByteArray × Unit)) : Prop := True
def S9 : Am.Spec := { sig := sig9, pre := fun ⟨x0, x1, _⟩ => P9 x0 x1, res := fun ⟨x0, x1, _⟩ => [⟨Ty.bool, g9_0 x0 x1⟩] }
theorem con9 : Contract Tryz.prog 9 S9 := contract_of Tryz.func9 hb9 (Nat.le_of_ble_eq_true (by kernel_rfl)) (fun ⟨x0, x1, _⟩ h hwf w0 O q => by
  refine (snd9 (x0.length + 2)).1 x0 x1 _ ?_ w0 O q
  show R9 (x0.length + 1 + 1) x0 x1 [⟨Ty.bool, decide (x0 = x1)⟩]
  rw [R9]
  by_cases hl : x0.length = x1.length
  · rw [if_neg (by simp [hl])]
    have := eq9 x0 x1 hl hwf.1.1 x0.length 0 (by omega)
    simpa using this
  · rw [if_pos (by simp; omega)]
    have : x0 ≠ x1 := fun h => hl (by rw [h])
    simp [this])

end Go.Proofs.YteojabdeehagnaaGreatDoor

/- Function 21 (laws.markText): its runs between cut points. Written by a program of this repo (gen). -/
set_option linter.unusedVariables false
set_option linter.unusedSimpArgs false
set_option maxRecDepth 100000
namespace Go.Proofs.YteojabdeehagnaaGreatDoor
open Go Go.Am Go.Proofs
def ext21 : Ext := []
theorem ext21Ok : ExtOk Tryz.prog ext21 := trivial
/-! Function 21. -/
noncomputable def b21 : Code := bodyOf Tryz.f21
theorem hb21 : Tryz.f21.body = some b21 := by kernel_rfl
def sig21 : List AT := [AT.v (Ty.int IntKind.i64)]
def tys21 : List Ty := [Ty.str]
def E21_4 (v3 : ByteArray) (x0 : Int) : Env := [(0, PV.a (Atom.val (Value.int IntKind.i64 x0))), (3, PV.a (Atom.val (Value.string v3)))]
def L21_4 (v3 : ByteArray) (x0 : Int) : Heap := []
mutual
def R21 : Nat → Int → List Dyn → Prop
  | 0, _, _ => False
  | n + 1, x0, ds => (if (Decidable.decide (x0 ≤ 0)) = true then (ds = [Dyn.mk Ty.str (ByteArray.mk #[109, 48])]) else (R21_4 n (ByteArray.mk #[]) (x0) ds))
def R21_4 : Nat → ByteArray → Int → List Dyn → Prop
  | 0, _, _, _ => False
  | n + 1, v3, x0, ds => (if (Decidable.decide (x0 > 0)) = true then ((InR IntKind.i64 (Int.tmod x0 10)) ∧ ((InR IntKind.i64 (48 + Int.tmod x0 10)) ∧ ((InR IntKind.u8 (48 + Int.tmod x0 10)) ∧ ((ByteArray.size (bytesStr [48 + Int.tmod x0 10]) + ByteArray.size v3 ≤ 9223372036854775807) ∧ ((InR IntKind.i64 (Int.tdiv x0 10)) ∧ (R21_4 n (bytesStr [48 + Int.tmod x0 10] ++ v3) (Int.tdiv x0 10) ds)))))) else ((1 + ByteArray.size v3 ≤ 9223372036854775807) ∧ (ds = [Dyn.mk Ty.str (ByteArray.mk #[109] ++ v3)])))
end
theorem p21_0 (x0 : Int) : runF tab ext21 false 20 [] 2000 [] tys21 Tryz.f21.results [true] [.code b21] (entE 0 0 sig21 (x0, ())) (entL sig21 (x0, ())) = some ([Dyn.mk Ty.str (ByteArray.mk #[109, 48])], [], [Decidable.decide (x0 ≤ 0) = Bool.true]) := by kernel_rfl
theorem p21_1 (x0 : Int) : Am.runN tab ext21 false 20 [] 2000 [] [] [0, 3] [] [false] [.code b21] (entE 0 0 sig21 (x0, ())) (entL sig21 (x0, ())) = some (cutAt b21 4, E21_4 (ByteArray.mk #[]) (x0), L21_4 (ByteArray.mk #[]) (x0), [Decidable.decide (x0 ≤ 0) = Bool.false]) := by kernel_rfl
theorem p21_2 (v3 : ByteArray) (x0 : Int) : Am.runN tab ext21 false 20 [] 2000 [] [] [0, 3] [] [true] (cutAt b21 4) (E21_4 v3 x0) (L21_4 v3 x0) = some (cutAt b21 4, E21_4 (bytesStr [48 + Int.tmod x0 10] ++ v3) (Int.tdiv x0 10), L21_4 (bytesStr [48 + Int.tmod x0 10] ++ v3) (Int.tdiv x0 10), [Decidable.decide (x0 > 0) = Bool.true, (10 : Int) ≠ (0 : Int), InR IntKind.i64 (Int.tmod x0 10), InR IntKind.i64 (48 + Int.tmod x0 10), InR IntKind.u8 (48 + Int.tmod x0 10), ByteArray.size (bytesStr [48 + Int.tmod x0 10]) + ByteArray.size v3 ≤ 9223372036854775807, (10 : Int) ≠ (0 : Int), InR IntKind.i64 (Int.tdiv x0 10)]) := by kernel_rfl
theorem p21_3 (v3 : ByteArray) (x0 : Int) : runF tab ext21 false 20 [] 2000 [] tys21 Tryz.f21.results [false] (cutAt b21 4) (E21_4 v3 x0) (L21_4 v3 x0) = some ([Dyn.mk Ty.str (ByteArray.mk #[109] ++ v3)], [], [Decidable.decide (x0 > 0) = Bool.false, 1 + ByteArray.size v3 ≤ 9223372036854775807]) := by kernel_rfl
theorem snd21 : ∀ n, (∀ (x0 : Int) ds, R21 n x0 ds → ∀ w0 O q, AtV Tryz.prog 21 (PostR ds [] [] q w0 O) 20 w0 O q [] [.code b21] (entE 0 0 sig21 (x0, ())) (entL sig21 (x0, ()))) ∧ (∀ (v3 : ByteArray) (x0 : Int) ds, R21_4 n v3 x0 ds → ∀ w0 O q, AtV Tryz.prog 21 (PostR ds [] [] q w0 O) 20 w0 O q [] (cutAt b21 4) (E21_4 v3 x0) (L21_4 v3 x0)) := by
  intro n
  induction n with
  | zero => exact ⟨fun _ _ h => by simp only [R21] at h, fun _ _ _ h => by simp only [R21_4] at h⟩
  | succ n ih =>
  obtain ⟨ih, ih4⟩ := ih
  refine ⟨?_, ?_⟩
  · intro x0 ds h w0 O q
    rw [R21] at h
    by_cases b0 : (Decidable.decide (x0 ≤ 0)) = true
    · rw [if_pos b0] at h
      subst h
      exact AtV.fin Tryz.func21 tabOk ext21Ok mixed (p21_0 x0) ⟨b0, trivial⟩
    · rw [if_neg b0] at h
      replace b0 := Bool.eq_false_iff.2 b0
      exact AtV.runN tabOk ext21Ok mixed (p21_1 x0) ⟨b0, trivial⟩ (ih4 _ _ _ h w0 O q)

  · intro v3 x0 ds h w0 O q
    rw [R21_4] at h
    by_cases b0 : (Decidable.decide (x0 > 0)) = true
    · rw [if_pos b0] at h
      obtain ⟨s0, h⟩ := h
      obtain ⟨s1, h⟩ := h
      obtain ⟨s2, h⟩ := h
      obtain ⟨s3, h⟩ := h
      obtain ⟨s4, h⟩ := h
      exact AtV.runN tabOk ext21Ok mixed (p21_2 v3 x0) ⟨b0, (by decide), s0, s1, s2, s3, (by decide), s4, trivial⟩ (ih4 _ _ _ h w0 O q)
    · rw [if_neg b0] at h
      replace b0 := Bool.eq_false_iff.2 b0
      obtain ⟨s0, h⟩ := h
      subst h
      exact AtV.fin Tryz.func21 tabOk ext21Ok mixed (p21_3 v3 x0) ⟨b0, s0, trivial⟩



def loop21 : Nat → ByteArray → Int → ByteArray
  | 0, v, _ => v
  | n + 1, v, x => if 0 < x then loop21 n (bytesStr [48 + Int.tmod x 10] ++ v) (Int.tdiv x 10) else v

theorem run21 : ∀ (n : Nat) (v : ByteArray) (x : Int), x < 10 ^ n → InR .i64 x → v.size + n ≤ 1000 → R21_4 (n + 1) v x [⟨.str, ByteArray.mk #[109] ++ loop21 n v x⟩] := by
  intro n
  induction n with
  | zero =>
    intro v x h1 _ h2
    rw [R21_4, if_neg (by simp at h1 ⊢; omega)]
    exact ⟨by omega, rfl⟩
  | succ n ih =>
    intro v x h1 hi h2
    rw [i64_iff] at hi
    rw [R21_4]
    by_cases hx : 0 < x
    · rw [if_pos (by simpa using hx)]
      have e1 : Int.tmod x 10 = x % 10 := Int.tmod_eq_emod_of_nonneg (by omega)
      have e2 : Int.tdiv x 10 = x / 10 := Int.tdiv_eq_ediv_of_nonneg (by omega)
      have hs : (bytesStr [48 + Int.tmod x 10]).size = 1 := bytesStr_size _
      have hp : (10 : Int) ^ (n + 1) = 10 * 10 ^ n := by rw [Int.pow_succ, Int.mul_comm]
      refine ⟨by rw [i64_iff, e1]; omega, by rw [i64_iff, e1]; omega, by rw [u8_iff, e1]; omega, by rw [hs]; omega, by rw [i64_iff, e2]; omega, ?_⟩
      have := ih (bytesStr [48 + Int.tmod x 10] ++ v) (Int.tdiv x 10) (by rw [e2]; omega) (by rw [i64_iff, e2]; omega) (by rw [ByteArray.size_append, hs]; omega)
      simp only [loop21, if_pos hx]
      exact this
    · rw [if_neg (by simp; omega)]
      simp only [loop21, if_neg hx]
      exact ⟨by omega, trivial⟩

def g21_0 (x0 : Int) : ByteArray := if x0 ≤ 0 then ByteArray.mk #[109, 48] else ByteArray.mk #[109] ++ loop21 19 (ByteArray.mk #[]) x0
def P21 (x0 : Int) : Prop := True

theorem top21 (x0 : Int) (hi : InR .i64 x0) : R21 21 x0 [⟨.str, g21_0 x0⟩] := by
  rw [R21]
  unfold g21_0
  by_cases h : x0 ≤ 0
  · rw [if_pos (by simpa using h), if_pos h]
  · rw [if_neg (by simpa using h), if_neg h]
    have hi' := hi
    rw [i64_iff] at hi'
    exact run21 19 _ x0 (by omega) hi (by decide)

def S21 : Am.Spec := { sig := sig21, pre := fun ⟨x0, _⟩ => P21 x0, res := fun ⟨x0, _⟩ => [⟨.str, g21_0 x0⟩] }
theorem con21 : Contract Tryz.prog 21 S21 := contract_of Tryz.func21 hb21 (Nat.le_of_ble_eq_true (by kernel_rfl)) (fun ⟨x0, _⟩ h hwf w0 O q =>
  (snd21 _).1 x0 _ (top21 x0 hwf.1) w0 O q)

end Go.Proofs.YteojabdeehagnaaGreatDoor

/- Function 10 (laws.markBlockS): its runs between cut points. Written by a program of this repo (gen). -/
set_option linter.unusedVariables false
set_option linter.unusedSimpArgs false
set_option maxRecDepth 100000
namespace Go.Proofs.YteojabdeehagnaaGreatDoor
open Go Go.Am Go.Proofs
def ext10 : Ext := [(21, S21)]
theorem call10_21 : Callable Tryz.prog 21 := ⟨Tryz.f21, Tryz.func21, by kernel_rfl, by kernel_rfl⟩
theorem ext10Ok : ExtOk Tryz.prog ext10 := ⟨⟨call10_21, con21⟩, trivial⟩
/-! Function 10. -/
noncomputable def b10 : Code := bodyOf Tryz.f10
theorem hb10 : Tryz.f10.body = some b10 := by kernel_rfl
def sig10 : List AT := [AT.own (Ty.cons Ty.str (Ty.cons Ty.str (Ty.cons Ty.str Ty.unit))), AT.v (Ty.int IntKind.i64)]
def tys10 : List Ty := [Ty.int IntKind.i64]
def E10_2 (v5 : Int) (x1 : Int) (x0 : List (ByteArray × ByteArray × ByteArray × Unit)) : Env := [(0, PV.a (Atom.osl 0 Option.none)), (1, PV.a (Atom.val (Value.int IntKind.i64 x1))), (5, PV.a (Atom.val (Value.int IntKind.i64 v5)))]
def L10_2 (v5 : Int) (x1 : Int) (x0 : List (ByteArray × ByteArray × ByteArray × Unit)) : Heap := [Option.some (Arr.mk (Ty.cons Ty.str (Ty.cons Ty.str (Ty.cons Ty.str Ty.unit))) x0 Bool.false)]
mutual
def R10 : Nat → List (ByteArray × ByteArray × ByteArray × Unit) → Int → List Dyn → List (Option Lst) → Prop
  | 0, _, _, _, _ => False
  | n + 1, x0, x1, ds, us => (R10_2 n (0) (x1) (x0) ds us)
def R10_2 : Nat → Int → Int → List (ByteArray × ByteArray × ByteArray × Unit) → List Dyn → List (Option Lst) → Prop
  | 0, _, _, _, _, _ => False
  | n + 1, v5, x1, x0, ds, us => (if (Decidable.decide (v5 < (↑(List.length x0) : Int))) = true then ((0 ≤ v5) ∧ (v5 < (↑(List.length x0) : Int)) ∧ ((InR IntKind.i64 (x1 + 1)) ∧ ((0 ≤ v5) ∧ (v5 < (↑(List.length (List.set x0 (Int.toNat v5) (g21_0 x1, Prod.snd (List.getD x0 (Int.toNat v5) (ByteArray.empty, ByteArray.empty, ByteArray.empty, ()))))) : Int)) ∧ ((InR IntKind.i64 (x1 + 1 + 1)) ∧ ((0 ≤ v5) ∧ (v5 < (↑(List.length (List.set (List.set x0 (Int.toNat v5) (g21_0 x1, Prod.snd (List.getD x0 (Int.toNat v5) (ByteArray.empty, ByteArray.empty, ByteArray.empty, ())))) (Int.toNat v5) (Prod.fst (List.getD (List.set x0 (Int.toNat v5) (g21_0 x1, Prod.snd (List.getD x0 (Int.toNat v5) (ByteArray.empty, ByteArray.empty, ByteArray.empty, ())))) (Int.toNat v5) (ByteArray.empty, ByteArray.empty, ByteArray.empty, ())), g21_0 (x1 + 1), Prod.snd (Prod.snd (List.getD (List.set x0 (Int.toNat v5) (g21_0 x1, Prod.snd (List.getD x0 (Int.toNat v5) (ByteArray.empty, ByteArray.empty, ByteArray.empty, ())))) (Int.toNat v5) (ByteArray.empty, ByteArray.empty, ByteArray.empty, ())))))) : Int)) ∧ ((InR IntKind.i64 (x1 + 1 + 1 + 1)) ∧ ((InR IntKind.i64 (v5 + 1)) ∧ (R10_2 n (v5 + 1) (x1 + 1 + 1 + 1) (List.set (List.set (List.set x0 (Int.toNat v5) (g21_0 x1, Prod.snd (List.getD x0 (Int.toNat v5) (ByteArray.empty, ByteArray.empty, ByteArray.empty, ())))) (Int.toNat v5) (Prod.fst (List.getD (List.set x0 (Int.toNat v5) (g21_0 x1, Prod.snd (List.getD x0 (Int.toNat v5) (ByteArray.empty, ByteArray.empty, ByteArray.empty, ())))) (Int.toNat v5) (ByteArray.empty, ByteArray.empty, ByteArray.empty, ())), g21_0 (x1 + 1), Prod.snd (Prod.snd (List.getD (List.set x0 (Int.toNat v5) (g21_0 x1, Prod.snd (List.getD x0 (Int.toNat v5) (ByteArray.empty, ByteArray.empty, ByteArray.empty, ())))) (Int.toNat v5) (ByteArray.empty, ByteArray.empty, ByteArray.empty, ()))))) (Int.toNat v5) (Prod.fst (List.getD (List.set (List.set x0 (Int.toNat v5) (g21_0 x1, Prod.snd (List.getD x0 (Int.toNat v5) (ByteArray.empty, ByteArray.empty, ByteArray.empty, ())))) (Int.toNat v5) (Prod.fst (List.getD (List.set x0 (Int.toNat v5) (g21_0 x1, Prod.snd (List.getD x0 (Int.toNat v5) (ByteArray.empty, ByteArray.empty, ByteArray.empty, ())))) (Int.toNat v5) (ByteArray.empty, ByteArray.empty, ByteArray.empty, ())), g21_0 (x1 + 1), Prod.snd (Prod.snd (List.getD (List.set x0 (Int.toNat v5) (g21_0 x1, Prod.snd (List.getD x0 (Int.toNat v5) (ByteArray.empty, ByteArray.empty, ByteArray.empty, ())))) (Int.toNat v5) (ByteArray.empty, ByteArray.empty, ByteArray.empty, ()))))) (Int.toNat v5) (ByteArray.empty, ByteArray.empty, ByteArray.empty, ())), Prod.fst (Prod.snd (List.getD (List.set (List.set x0 (Int.toNat v5) (g21_0 x1, Prod.snd (List.getD x0 (Int.toNat v5) (ByteArray.empty, ByteArray.empty, ByteArray.empty, ())))) (Int.toNat v5) (Prod.fst (List.getD (List.set x0 (Int.toNat v5) (g21_0 x1, Prod.snd (List.getD x0 (Int.toNat v5) (ByteArray.empty, ByteArray.empty, ByteArray.empty, ())))) (Int.toNat v5) (ByteArray.empty, ByteArray.empty, ByteArray.empty, ())), g21_0 (x1 + 1), Prod.snd (Prod.snd (List.getD (List.set x0 (Int.toNat v5) (g21_0 x1, Prod.snd (List.getD x0 (Int.toNat v5) (ByteArray.empty, ByteArray.empty, ByteArray.empty, ())))) (Int.toNat v5) (ByteArray.empty, ByteArray.empty, ByteArray.empty, ()))))) (Int.toNat v5) (ByteArray.empty, ByteArray.empty, ByteArray.empty, ()))), g21_0 (x1 + 1 + 1), Prod.snd (Prod.snd (Prod.snd (List.getD (List.set (List.set x0 (Int.toNat v5) (g21_0 x1, Prod.snd (List.getD x0 (Int.toNat v5) (ByteArray.empty, ByteArray.empty, ByteArray.empty, ())))) (Int.toNat v5) (Prod.fst (List.getD (List.set x0 (Int.toNat v5) (g21_0 x1, Prod.snd (List.getD x0 (Int.toNat v5) (ByteArray.empty, ByteArray.empty, ByteArray.empty, ())))) (Int.toNat v5) (ByteArray.empty, ByteArray.empty, ByteArray.empty, ())), g21_0 (x1 + 1), Prod.snd (Prod.snd (List.getD (List.set x0 (Int.toNat v5) (g21_0 x1, Prod.snd (List.getD x0 (Int.toNat v5) (ByteArray.empty, ByteArray.empty, ByteArray.empty, ())))) (Int.toNat v5) (ByteArray.empty, ByteArray.empty, ByteArray.empty, ()))))) (Int.toNat v5) (ByteArray.empty, ByteArray.empty, ByteArray.empty, ())))))) ds us)))))))) else (ds = [Dyn.mk (Ty.int IntKind.i64) x1] ∧ us = [Option.some (Lst.mk (Ty.cons Ty.str (Ty.cons Ty.str (Ty.cons Ty.str Ty.unit))) x0)]))
end
theorem p10_0 (x0 : List (ByteArray × ByteArray × ByteArray × Unit)) (x1 : Int) : Am.runN tab ext10 false 37 [] 2000 [0] [] [0, 1, 5] [0] [] [.code b10] (entE 0 0 sig10 (x0, x1, ())) (entL sig10 (x0, x1, ())) = some (cutAt b10 2, E10_2 (0) (x1) (x0), L10_2 (0) (x1) (x0), []) := by kernel_rfl
theorem p10_1 (v5 : Int) (x1 : Int) (x0 : List (ByteArray × ByteArray × ByteArray × Unit)) : Am.runN tab ext10 false 37 [] 2000 [0] [] [0, 1, 5] [0] [true] (cutAt b10 2) (E10_2 v5 x1 x0) (L10_2 v5 x1 x0) = some (cutAt b10 2, E10_2 (v5 + 1) (x1 + 1 + 1 + 1) (List.set (List.set (List.set x0 (Int.toNat v5) (g21_0 x1, Prod.snd (List.getD x0 (Int.toNat v5) (ByteArray.empty, ByteArray.empty, ByteArray.empty, ())))) (Int.toNat v5) (Prod.fst (List.getD (List.set x0 (Int.toNat v5) (g21_0 x1, Prod.snd (List.getD x0 (Int.toNat v5) (ByteArray.empty, ByteArray.empty, ByteArray.empty, ())))) (Int.toNat v5) (ByteArray.empty, ByteArray.empty, ByteArray.empty, ())), g21_0 (x1 + 1), Prod.snd (Prod.snd (List.getD (List.set x0 (Int.toNat v5) (g21_0 x1, Prod.snd (List.getD x0 (Int.toNat v5) (ByteArray.empty, ByteArray.empty, ByteArray.empty, ())))) (Int.toNat v5) (ByteArray.empty, ByteArray.empty, ByteArray.empty, ()))))) (Int.toNat v5) (Prod.fst (List.getD (List.set (List.set x0 (Int.toNat v5) (g21_0 x1, Prod.snd (List.getD x0 (Int.toNat v5) (ByteArray.empty, ByteArray.empty, ByteArray.empty, ())))) (Int.toNat v5) (Prod.fst (List.getD (List.set x0 (Int.toNat v5) (g21_0 x1, Prod.snd (List.getD x0 (Int.toNat v5) (ByteArray.empty, ByteArray.empty, ByteArray.empty, ())))) (Int.toNat v5) (ByteArray.empty, ByteArray.empty, ByteArray.empty, ())), g21_0 (x1 + 1), Prod.snd (Prod.snd (List.getD (List.set x0 (Int.toNat v5) (g21_0 x1, Prod.snd (List.getD x0 (Int.toNat v5) (ByteArray.empty, ByteArray.empty, ByteArray.empty, ())))) (Int.toNat v5) (ByteArray.empty, ByteArray.empty, ByteArray.empty, ()))))) (Int.toNat v5) (ByteArray.empty, ByteArray.empty, ByteArray.empty, ())), Prod.fst (Prod.snd (List.getD (List.set (List.set x0 (Int.toNat v5) (g21_0 x1, Prod.snd (List.getD x0 (Int.toNat v5) (ByteArray.empty, ByteArray.empty, ByteArray.empty, ())))) (Int.toNat v5) (Prod.fst (List.getD (List.set x0 (Int.toNat v5) (g21_0 x1, Prod.snd (List.getD x0 (Int.toNat v5) (ByteArray.empty, ByteArray.empty, ByteArray.empty, ())))) (Int.toNat v5) (ByteArray.empty, ByteArray.empty, ByteArray.empty, ())), g21_0 (x1 + 1), Prod.snd (Prod.snd (List.getD (List.set x0 (Int.toNat v5) (g21_0 x1, Prod.snd (List.getD x0 (Int.toNat v5) (ByteArray.empty, ByteArray.empty, ByteArray.empty, ())))) (Int.toNat v5) (ByteArray.empty, ByteArray.empty, ByteArray.empty, ()))))) (Int.toNat v5) (ByteArray.empty, ByteArray.empty, ByteArray.empty, ()))), g21_0 (x1 + 1 + 1), Prod.snd (Prod.snd (Prod.snd (List.getD (List.set (List.set x0 (Int.toNat v5) (g21_0 x1, Prod.snd (List.getD x0 (Int.toNat v5) (ByteArray.empty, ByteArray.empty, ByteArray.empty, ())))) (Int.toNat v5) (Prod.fst (List.getD (List.set x0 (Int.toNat v5) (g21_0 x1, Prod.snd (List.getD x0 (Int.toNat v5) (ByteArray.empty, ByteArray.empty, ByteArray.empty, ())))) (Int.toNat v5) (ByteArray.empty, ByteArray.empty, ByteArray.empty, ())), g21_0 (x1 + 1), Prod.snd (Prod.snd (List.getD (List.set x0 (Int.toNat v5) (g21_0 x1, Prod.snd (List.getD x0 (Int.toNat v5) (ByteArray.empty, ByteArray.empty, ByteArray.empty, ())))) (Int.toNat v5) (ByteArray.empty, ByteArray.empty, ByteArray.empty, ()))))) (Int.toNat v5) (ByteArray.empty, ByteArray.empty, ByteArray.empty, ())))))), L10_2 (v5 + 1) (x1 + 1 + 1 + 1) (List.set (List.set (List.set x0 (Int.toNat v5) (g21_0 x1, Prod.snd (List.getD x0 (Int.toNat v5) (ByteArray.empty, ByteArray.empty, ByteArray.empty, ())))) (Int.toNat v5) (Prod.fst (List.getD (List.set x0 (Int.toNat v5) (g21_0 x1, Prod.snd (List.getD x0 (Int.toNat v5) (ByteArray.empty, ByteArray.empty, ByteArray.empty, ())))) (Int.toNat v5) (ByteArray.empty, ByteArray.empty, ByteArray.empty, ())), g21_0 (x1 + 1), Prod.snd (Prod.snd (List.getD (List.set x0 (Int.toNat v5) (g21_0 x1, Prod.snd (List.getD x0 (Int.toNat v5) (ByteArray.empty, ByteArray.empty, ByteArray.empty, ())))) (Int.toNat v5) (ByteArray.empty, ByteArray.empty, ByteArray.empty, ()))))) (Int.toNat v5) (Prod.fst (List.getD (List.set (List.set x0 (Int.toNat v5) (g21_0 x1, Prod.snd (List.getD x0 (Int.toNat v5) (ByteArray.empty, ByteArray.empty, ByteArray.empty, ())))) (Int.toNat v5) (Prod.fst (List.getD (List.set x0 (Int.toNat v5) (g21_0 x1, Prod.snd (List.getD x0 (Int.toNat v5) (ByteArray.empty, ByteArray.empty, ByteArray.empty, ())))) (Int.toNat v5) (ByteArray.empty, ByteArray.empty, ByteArray.empty, ())), g21_0 (x1 + 1), Prod.snd (Prod.snd (List.getD (List.set x0 (Int.toNat v5) (g21_0 x1, Prod.snd (List.getD x0 (Int.toNat v5) (ByteArray.empty, ByteArray.empty, ByteArray.empty, ())))) (Int.toNat v5) (ByteArray.empty, ByteArray.empty, ByteArray.empty, ()))))) (Int.toNat v5) (ByteArray.empty, ByteArray.empty, ByteArray.empty, ())), Prod.fst (Prod.snd (List.getD (List.set (List.set x0 (Int.toNat v5) (g21_0 x1, Prod.snd (List.getD x0 (Int.toNat v5) (ByteArray.empty, ByteArray.empty, ByteArray.empty, ())))) (Int.toNat v5) (Prod.fst (List.getD (List.set x0 (Int.toNat v5) (g21_0 x1, Prod.snd (List.getD x0 (Int.toNat v5) (ByteArray.empty, ByteArray.empty, ByteArray.empty, ())))) (Int.toNat v5) (ByteArray.empty, ByteArray.empty, ByteArray.empty, ())), g21_0 (x1 + 1), Prod.snd (Prod.snd (List.getD (List.set x0 (Int.toNat v5) (g21_0 x1, Prod.snd (List.getD x0 (Int.toNat v5) (ByteArray.empty, ByteArray.empty, ByteArray.empty, ())))) (Int.toNat v5) (ByteArray.empty, ByteArray.empty, ByteArray.empty, ()))))) (Int.toNat v5) (ByteArray.empty, ByteArray.empty, ByteArray.empty, ()))), g21_0 (x1 + 1 + 1), Prod.snd (Prod.snd (Prod.snd (List.getD (List.set (List.set x0 (Int.toNat v5) (g21_0 x1, Prod.snd (List.getD x0 (Int.toNat v5) (ByteArray.empty, ByteArray.empty, ByteArray.empty, ())))) (Int.toNat v5) (Prod.fst (List.getD (List.set x0 (Int.toNat v5) (g21_0 x1, Prod.snd (List.getD x0 (Int.toNat v5) (ByteArray.empty, ByteArray.empty, ByteArray.empty, ())))) (Int.toNat v5) (ByteArray.empty, ByteArray.empty, ByteArray.empty, ())), g21_0 (x1 + 1), Prod.snd (Prod.snd (List.getD (List.set x0 (Int.toNat v5) (g21_0 x1, Prod.snd (List.getD x0 (Int.toNat v5) (ByteArray.empty, ByteArray.empty, ByteArray.empty, ())))) (Int.toNat v5) (ByteArray.empty, ByteArray.empty, ByteArray.empty, ()))))) (Int.toNat v5) (ByteArray.empty, ByteArray.empty, ByteArray.empty, ())))))), [Decidable.decide (v5 < (↑(List.length x0) : Int)) = Bool.true, True, 0 ≤ v5, v5 < (↑(List.length x0) : Int), InR IntKind.i64 (x1 + 1), True, 0 ≤ v5, v5 < (↑(List.length (List.set x0 (Int.toNat v5) (g21_0 x1, Prod.snd (List.getD x0 (Int.toNat v5) (ByteArray.empty, ByteArray.empty, ByteArray.empty, ()))))) : Int), InR IntKind.i64 (x1 + 1 + 1), True, 0 ≤ v5, v5 < (↑(List.length (List.set (List.set x0 (Int.toNat v5) (g21_0 x1, Prod.snd (List.getD x0 (Int.toNat v5) (ByteArray.empty, ByteArray.empty, ByteArray.empty, ())))) (Int.toNat v5) (Prod.fst (List.getD (List.set x0 (Int.toNat v5) (g21_0 x1, Prod.snd (List.getD x0 (Int.toNat v5) (ByteArray.empty, ByteArray.empty, ByteArray.empty, ())))) (Int.toNat v5) (ByteArray.empty, ByteArray.empty, ByteArray.empty, ())), g21_0 (x1 + 1), Prod.snd (Prod.snd (List.getD (List.set x0 (Int.toNat v5) (g21_0 x1, Prod.snd (List.getD x0 (Int.toNat v5) (ByteArray.empty, ByteArray.empty, ByteArray.empty, ())))) (Int.toNat v5) (ByteArray.empty, ByteArray.empty, ByteArray.empty, ())))))) : Int), InR IntKind.i64 (x1 + 1 + 1 + 1), InR IntKind.i64 (v5 + 1)]) := by kernel_rfl
theorem p10_2 (v5 : Int) (x1 : Int) (x0 : List (ByteArray × ByteArray × ByteArray × Unit)) : runF tab ext10 false 37 [] 2000 [0] tys10 Tryz.f10.results [false] (cutAt b10 2) (E10_2 v5 x1 x0) (L10_2 v5 x1 x0) = some ([Dyn.mk (Ty.int IntKind.i64) x1], [Option.some (Lst.mk (Ty.cons Ty.str (Ty.cons Ty.str (Ty.cons Ty.str Ty.unit))) x0)], [Decidable.decide (v5 < (↑(List.length x0) : Int)) = Bool.false]) := by kernel_rfl
theorem snd10 : ∀ n, (∀ (x0 : List (ByteArray × ByteArray × ByteArray × Unit)) (x1 : Int) ds us, R10 n x0 x1 ds us → ∀ w0 O q, AtV Tryz.prog 10 (PostR ds us [0] q w0 O) 37 w0 O q [0] [.code b10] (entE 0 0 sig10 (x0, x1, ())) (entL sig10 (x0, x1, ()))) ∧ (∀ (v5 : Int) (x1 : Int) (x0 : List (ByteArray × ByteArray × ByteArray × Unit)) ds us, R10_2 n v5 x1 x0 ds us → ∀ w0 O q, AtV Tryz.prog 10 (PostR ds us [0] q w0 O) 37 w0 O q [0] (cutAt b10 2) (E10_2 v5 x1 x0) (L10_2 v5 x1 x0)) := by
  intro n
  induction n with
  | zero => exact ⟨fun _ _ _ _ h => by simp only [R10] at h, fun _ _ _ _ _ h => by simp only [R10_2] at h⟩
  | succ n ih =>
  obtain ⟨ih, ih2⟩ := ih
  refine ⟨?_, ?_⟩
  · intro x0 x1 ds us h w0 O q
    rw [R10] at h
    exact AtV.runN tabOk ext10Ok mixed (p10_0 x0 x1) trivial (ih2 _ _ _ _ _ h w0 O q)

  · intro v5 x1 x0 ds us h w0 O q
    rw [R10_2] at h
    by_cases b0 : (Decidable.decide (v5 < (↑(List.length x0) : Int))) = true
    · rw [if_pos b0] at h
      obtain ⟨s0, s1, h⟩ := h
      obtain ⟨s2, h⟩ := h
      obtain ⟨s3, s4, h⟩ := h
      obtain ⟨s5, h⟩ := h
      obtain ⟨s6, s7, h⟩ := h
      obtain ⟨s8, h⟩ := h
      obtain ⟨s9, h⟩ := h
      exact AtV.runN tabOk ext10Ok mixed (p10_1 v5 x1 x0) ⟨b0, trivial, s0, s1, s2, trivial, s3, s4, s5, trivial, s6, s7, s8, s9, trivial⟩ (ih2 _ _ _ _ _ h w0 O q)
    · rw [if_neg b0] at h
      replace b0 := Bool.eq_false_iff.2 b0
      obtain ⟨h, h'⟩ := h; subst h; subst h'
      exact AtV.fin Tryz.func10 tabOk ext10Ok mixed (p10_2 v5 x1 x0) ⟨b0, trivial⟩



def M10 (x1 : Int) (n : Nat) : List (ByteArray × ByteArray × ByteArray × Unit) := (List.range n).map fun (j : Nat) => (g21_0 (x1 + 3 * (j : Int)), g21_0 (x1 + 3 * (j : Int) + 1), g21_0 (x1 + 3 * (j : Int) + 1 + 1), ())

theorem M10_len (x1 : Int) (n : Nat) : (M10 x1 n).length = n := by simp [M10]

theorem M10_succ (x1 : Int) (n : Nat) : M10 x1 (n + 1) = M10 x1 n ++ [(g21_0 (x1 + 3 * (n : Int)), g21_0 (x1 + 3 * (n : Int) + 1), g21_0 (x1 + 3 * (n : Int) + 1 + 1), ())] := by
  simp [M10, List.range_succ]

theorem run10 (x0 : List (ByteArray × ByteArray × ByteArray × Unit)) (x1 : Int) (hm : x0.length ≤ maxLen) (h0 : 0 ≤ x1) (h1 : x1 + 3 * x0.length ≤ 9223372036854775807) : ∀ (k i : Nat), i + k = x0.length →
    R10_2 (k + 1) (i : Int) (x1 + 3 * (i : Int)) (M10 x1 i ++ x0.drop i) [⟨.int .i64, x1 + 3 * (x0.length : Int)⟩] [some ⟨(.cons .str (.cons .str (.cons .str .unit))), M10 x1 x0.length⟩] := by
  intro k
  induction k with
  | zero =>
    intro i hi
    have hl : (M10 x1 i ++ x0.drop i).length = x0.length := by simp [M10_len]; omega
    rw [R10_2, if_neg (by rw [hl]; simp; omega), drop_end x0 i (by omega), List.append_nil]
    have : i = x0.length := by omega
    subst this
    exact ⟨rfl, rfl⟩
  | succ k ih =>
    intro i hi
    have hl : (M10 x1 i ++ x0.drop i).length = x0.length := by simp [M10_len]; omega
    have hA := M10_len x1 i
    rw [R10_2, if_pos (by rw [hl]; simp; omega)]
    rw [drop_get x0 i (ByteArray.empty, ByteArray.empty, ByteArray.empty, ()) (by omega)] at hl ⊢
    simp only [Int.toNat_natCast, set_mid _ _ _ _ i hA, get_mid _ _ _ _ i hA]
    have hl' : ∀ y : (ByteArray × ByteArray × ByteArray × Unit), ((M10 x1 i ++ y :: x0.drop (i + 1)).length : Int) = x0.length := fun y => by rw [← hl]; simp
    simp only [hl']
    refine ⟨by omega, by omega, by rw [i64_iff]; omega, by omega, by omega, by rw [i64_iff]; omega, by omega, by omega, by rw [i64_iff]; omega, inR_up hm (by omega), ?_⟩
    have hx : x1 + 3 * (i : Int) + 1 + 1 + 1 = x1 + 3 * ((i + 1 : Nat) : Int) := by omega
    have := ih (i + 1) (by omega)
    rw [M10_succ, List.append_assoc] at this
    rw [hx]
    simpa using this

def P10 (x0 : List (ByteArray × ByteArray × ByteArray × Unit)) (x1 : Int) : Prop := 0 ≤ x1 ∧ x1 + 3 * x0.length ≤ 9223372036854775807
def g10_0 (x0 : List (ByteArray × ByteArray × ByteArray × Unit)) (x1 : Int) : Int := x1 + 3 * (x0.length : Int)
def u10_0 (x0 : List (ByteArray × ByteArray × ByteArray × Unit)) (x1 : Int) : List (ByteArray × ByteArray × ByteArray × Unit) := M10 x1 x0.length

theorem top10 (x0 : List (ByteArray × ByteArray × ByteArray × Unit)) (x1 : Int) (hm : x0.length ≤ maxLen) (h : P10 x0 x1) : R10 (x0.length + 1 + 1) x0 x1 [⟨.int .i64, g10_0 x0 x1⟩] [some ⟨(.cons .str (.cons .str (.cons .str .unit))), u10_0 x0 x1⟩] := by
  rw [R10]
  have := run10 x0 x1 hm h.1 h.2 x0.length 0 (by omega)
  simpa [M10, g10_0, u10_0] using this

def S10 : Am.Spec := { sig := sig10, pre := fun ⟨x0, x1, _⟩ => P10 x0 x1, upd := fun ⟨x0, x1, _⟩ => [some ⟨(.cons .str (.cons .str (.cons .str .unit))), u10_0 x0 x1⟩], res := fun ⟨x0, x1, _⟩ => [⟨.int .i64, g10_0 x0 x1⟩] }
theorem con10 : Contract Tryz.prog 10 S10 := contract_of Tryz.func10 hb10 (Nat.le_of_ble_eq_true (by kernel_rfl)) (fun ⟨x0, x1, _⟩ h hwf w0 O q =>
  (snd10 _).1 x0 x1 _ _ (top10 x0 x1 hwf.1.1 h) w0 O q)

end Go.Proofs.YteojabdeehagnaaGreatDoor
