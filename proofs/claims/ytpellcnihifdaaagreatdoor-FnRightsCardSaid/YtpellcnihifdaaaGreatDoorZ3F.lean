/- Several texts in one: the functions that this law reaches, and their laws. -/
import Derived.Test.YtpellcnihifdaaaGreatDoorZ3A
import Derived.Test.YtpellcnihifdaaaGreatDoorZ3B
import Derived.Test.YtpellcnihifdaaaGreatDoorZ3C
import Derived.Test.YtpellcnihifdaaaGreatDoorZ3D
import Derived.Test.YtpellcnihifdaaaGreatDoorZ3E

/- Function 3 (laws.FnRights): its runs between cut points. Written by a program of this repo (gen). -/
set_option linter.unusedVariables false
set_option linter.unusedSimpArgs false
set_option maxRecDepth 100000
set_option maxHeartbeats 2000000
namespace Go.Proofs.YtpellcnihifdaaaGreatDoor
open Go Go.Am Go.Proofs
noncomputable section
def ext3 : Ext := [(4, S4), (5, S5), (6, S6), (7, S7), (8, S8), (9, S9), (10, S10), (11, S11), (12, S12), (14, S14), (13, S13)]
theorem call3_4 : Callable Tryz.prog 4 := ⟨Tryz.f4, Tryz.func4, by kernel_rfl, by kernel_rfl⟩
theorem call3_5 : Callable Tryz.prog 5 := ⟨Tryz.f5, Tryz.func5, by kernel_rfl, by kernel_rfl⟩
theorem call3_6 : Callable Tryz.prog 6 := ⟨Tryz.f6, Tryz.func6, by kernel_rfl, by kernel_rfl⟩
theorem call3_7 : Callable Tryz.prog 7 := ⟨Tryz.f7, Tryz.func7, by kernel_rfl, by kernel_rfl⟩
theorem call3_8 : Callable Tryz.prog 8 := ⟨Tryz.f8, Tryz.func8, by kernel_rfl, by kernel_rfl⟩
theorem call3_9 : Callable Tryz.prog 9 := ⟨Tryz.f9, Tryz.func9, by kernel_rfl, by kernel_rfl⟩
theorem call3_10 : Callable Tryz.prog 10 := ⟨Tryz.f10, Tryz.func10, by kernel_rfl, by kernel_rfl⟩
theorem call3_11 : Callable Tryz.prog 11 := ⟨Tryz.f11, Tryz.func11, by kernel_rfl, by kernel_rfl⟩
theorem call3_12 : Callable Tryz.prog 12 := ⟨Tryz.f12, Tryz.func12, by kernel_rfl, by kernel_rfl⟩
theorem call3_14 : Callable Tryz.prog 14 := ⟨Tryz.f14, Tryz.func14, by kernel_rfl, by kernel_rfl⟩
theorem call3_13 : Callable Tryz.prog 13 := ⟨Tryz.f13, Tryz.func13, by kernel_rfl, by kernel_rfl⟩
theorem ext3Ok : ExtOk Tryz.prog ext3 := ⟨⟨call3_4, con4⟩, ⟨call3_5, con5⟩, ⟨call3_6, con6⟩, ⟨call3_7, con7⟩, ⟨call3_8, con8⟩, ⟨call3_9, con9⟩, ⟨call3_10, con10⟩, ⟨call3_11, con11⟩, ⟨call3_12, con12⟩, ⟨call3_14, con14⟩, ⟨call3_13, con13⟩, trivial⟩

noncomputable def b3 : Code := bodyOf Tryz.f3
theorem hb3 : Tryz.f3.body = some b3 := by kernel_rfl
def sig3 : List AT := [AT.v (Ty.sl (Ty.int IntKind.u8)), AT.v (Ty.sl (Ty.int IntKind.u8))]
def tys3 : List Ty := [Ty.bool]
def kds3 : List RK := []
def oks3 : List AT := owns sig3
def E3_3 (x0 : List Int) (x1 : List Int) : Env := [(0, PV.a (Atom.sl (Ty.int IntKind.u8) x0)), (1, PV.a (Atom.sl (Ty.int IntKind.u8) x1))]
def L3_3 (x0 : List Int) (x1 : List Int) : Heap := []
def E3_8 (v13 : Int) (x1 : List Int) (x0 : List Int) : Env := [(1, PV.a (Atom.sl (Ty.int IntKind.u8) x1)), (5, PV.a (Atom.sl (Ty.cons Ty.str (Ty.cons (Ty.sl Ty.str) Ty.unit)) (g5_0 x0))), (6, PV.a (Atom.osl 0 Option.none)), (7, PV.a (Atom.val (Value.string (g5_2 x0)))), (8, PV.a (Atom.val (Value.int IntKind.i64 (g5_3 x0)))), (9, PV.a (Atom.osl 1 Option.none)), (11, PV.a (Atom.val (Value.string (g7_0 (g5_0 x0) (g5_1 x0) (g5_2 x0) (g5_3 x0))))), (12, PV.a (Atom.val (Value.int IntKind.i64 (g7_1 (g5_0 x0) (g5_1 x0) (g5_2 x0) (g5_3 x0))))), (13, PV.a (Atom.val (Value.int IntKind.i64 v13)))]
def L3_8 (v13 : Int) (x1 : List Int) (x0 : List Int) : Heap := [Option.some (Arr.mk (Ty.cons Ty.str (Ty.cons Ty.str (Ty.cons (Ty.int IntKind.i64) Ty.unit))) (g5_1 x0) Bool.false Option.none Option.none), Option.some (Arr.mk Ty.str (g6_0 (g5_0 x0) (g5_1 x0) (g5_2 x0) (g5_3 x0)) Bool.false Option.none Option.none)]
def E3_23 (x1 : List Int) : Env := [(1, PV.a (Atom.sl (Ty.int IntKind.u8) x1))]
def L3_23 (x1 : List Int) : Heap := []
def E3_10 (x1 : List Int) (x0 : List Int) (v13 : Int) : Env := [(1, PV.a (Atom.sl (Ty.int IntKind.u8) x1)), (5, PV.a (Atom.sl (Ty.cons Ty.str (Ty.cons (Ty.sl Ty.str) Ty.unit)) (g5_0 x0))), (6, PV.a (Atom.osl 0 Option.none)), (7, PV.a (Atom.val (Value.string (g5_2 x0)))), (8, PV.a (Atom.val (Value.int IntKind.i64 (g5_3 x0)))), (9, PV.a (Atom.osl 1 Option.none)), (11, PV.a (Atom.val (Value.string (g7_0 (g5_0 x0) (g5_1 x0) (g5_2 x0) (g5_3 x0))))), (12, PV.a (Atom.val (Value.int IntKind.i64 (g7_1 (g5_0 x0) (g5_1 x0) (g5_2 x0) (g5_3 x0))))), (13, PV.a (Atom.val (Value.int IntKind.i64 v13)))]
def L3_10 (x1 : List Int) (x0 : List Int) (v13 : Int) : Heap := [Option.some (Arr.mk (Ty.cons Ty.str (Ty.cons Ty.str (Ty.cons (Ty.int IntKind.i64) Ty.unit))) (g5_1 x0) Bool.false Option.none Option.none), Option.some (Arr.mk Ty.str (g6_0 (g5_0 x0) (g5_1 x0) (g5_2 x0) (g5_3 x0)) Bool.false Option.none Option.none)]
def E3_27 (x1 : List Int) : Env := [(18, PV.a (Atom.sl (Ty.cons Ty.str (Ty.cons (Ty.sl Ty.str) Ty.unit)) (g11_0 x1))), (19, PV.a (Atom.osl 0 Option.none)), (20, PV.a (Atom.val (Value.string (g11_2 x1)))), (21, PV.a (Atom.osl 1 Option.none))]
def L3_27 (x1 : List Int) : Heap := [Option.some (Arr.mk (Ty.cons Ty.str (Ty.cons Ty.str (Ty.cons (Ty.int IntKind.i64) Ty.unit))) (g11_1 x1) Bool.false Option.none Option.none), Option.some (Arr.mk (Ty.cons Ty.str (Ty.cons Ty.str (Ty.cons (Ty.int IntKind.i64) Ty.unit))) (g12_0 (g11_0 x1) (g11_1 x1) (g11_2 x1)) Bool.false Option.none Option.none)]
def E3_13 (v99 : Bool) (x1 : List Int) (x0 : List Int) (v13 : Int) : Env := [(1, PV.a (Atom.sl (Ty.int IntKind.u8) x1)), (5, PV.a (Atom.sl (Ty.cons Ty.str (Ty.cons (Ty.sl Ty.str) Ty.unit)) (g5_0 x0))), (6, PV.a (Atom.osl 0 Option.none)), (7, PV.a (Atom.val (Value.string (g5_2 x0)))), (8, PV.a (Atom.val (Value.int IntKind.i64 (g5_3 x0)))), (9, PV.a (Atom.osl 1 Option.none)), (11, PV.a (Atom.val (Value.string (g7_0 (g5_0 x0) (g5_1 x0) (g5_2 x0) (g5_3 x0))))), (12, PV.a (Atom.val (Value.int IntKind.i64 (g7_1 (g5_0 x0) (g5_1 x0) (g5_2 x0) (g5_3 x0))))), (13, PV.a (Atom.val (Value.int IntKind.i64 v13))), (14, PV.a (Atom.val (Value.bool (g8_0 (g5_0 x0) (g5_1 x0) (List.getD (g5_0 x0) (Int.toNat v13) (ByteArray.empty, [], ())).1 (g5_2 x0) (g5_3 x0))))), (87, PV.a (Atom.val (Value.bool (g8_0 (g5_0 x0) (g5_1 x0) (List.getD (g5_0 x0) (Int.toNat v13) (ByteArray.empty, [], ())).1 (g5_2 x0) (g5_3 x0))))), (88, PV.a (Atom.val (Value.bool (g8_0 (g5_0 x0) (g5_1 x0) (List.getD (g5_0 x0) (Int.toNat v13) (ByteArray.empty, [], ())).1 (g5_2 x0) (g5_3 x0))))), (99, PV.a (Atom.val (Value.bool v99)))]
def L3_13 (v99 : Bool) (x1 : List Int) (x0 : List Int) (v13 : Int) : Heap := [Option.some (Arr.mk (Ty.cons Ty.str (Ty.cons Ty.str (Ty.cons (Ty.int IntKind.i64) Ty.unit))) (g5_1 x0) Bool.false Option.none Option.none), Option.some (Arr.mk Ty.str (g6_0 (g5_0 x0) (g5_1 x0) (g5_2 x0) (g5_3 x0)) Bool.false Option.none Option.none)]
def E3_28 (v23 : Int) (x1 : List Int) : Env := [(18, PV.a (Atom.sl (Ty.cons Ty.str (Ty.cons (Ty.sl Ty.str) Ty.unit)) (g11_0 x1))), (19, PV.a (Atom.osl 0 Option.none)), (20, PV.a (Atom.val (Value.string (g11_2 x1)))), (21, PV.a (Atom.osl 1 Option.none)), (23, PV.a (Atom.val (Value.int IntKind.i64 v23)))]
def L3_28 (v23 : Int) (x1 : List Int) : Heap := [Option.some (Arr.mk (Ty.cons Ty.str (Ty.cons Ty.str (Ty.cons (Ty.int IntKind.i64) Ty.unit))) (g11_1 x1) Bool.false Option.none Option.none), Option.some (Arr.mk (Ty.cons Ty.str (Ty.cons Ty.str (Ty.cons (Ty.int IntKind.i64) Ty.unit))) (g12_0 (g11_0 x1) (g11_1 x1) (g11_2 x1)) Bool.false Option.none Option.none)]
def E3_16 (x1 : List Int) (x0 : List Int) (v13 : Int) (v99 : Bool) : Env := [(1, PV.a (Atom.sl (Ty.int IntKind.u8) x1)), (5, PV.a (Atom.sl (Ty.cons Ty.str (Ty.cons (Ty.sl Ty.str) Ty.unit)) (g5_0 x0))), (6, PV.a (Atom.osl 0 Option.none)), (7, PV.a (Atom.val (Value.string (g5_2 x0)))), (8, PV.a (Atom.val (Value.int IntKind.i64 (g5_3 x0)))), (9, PV.a (Atom.osl 1 Option.none)), (11, PV.a (Atom.val (Value.string (g7_0 (g5_0 x0) (g5_1 x0) (g5_2 x0) (g5_3 x0))))), (12, PV.a (Atom.val (Value.int IntKind.i64 (g7_1 (g5_0 x0) (g5_1 x0) (g5_2 x0) (g5_3 x0))))), (13, PV.a (Atom.val (Value.int IntKind.i64 v13))), (14, PV.a (Atom.val (Value.bool (g8_0 (g5_0 x0) (g5_1 x0) (List.getD (g5_0 x0) (Int.toNat v13) (ByteArray.empty, [], ())).1 (g5_2 x0) (g5_3 x0))))), (15, PV.a (Atom.osl 2 Option.none)), (87, PV.a (Atom.val (Value.bool (g8_0 (g5_0 x0) (g5_1 x0) (List.getD (g5_0 x0) (Int.toNat v13) (ByteArray.empty, [], ())).1 (g5_2 x0) (g5_3 x0))))), (88, PV.a (Atom.val (Value.bool (g8_0 (g5_0 x0) (g5_1 x0) (List.getD (g5_0 x0) (Int.toNat v13) (ByteArray.empty, [], ())).1 (g5_2 x0) (g5_3 x0))))), (99, PV.a (Atom.val (Value.bool v99))), (114, PV.a (Atom.osl 2 Option.none)), (115, PV.a (Atom.sl (Ty.cons Ty.str (Ty.cons (Ty.sl Ty.str) Ty.unit)) (g5_0 x0))), (116, PV.a (Atom.val (Value.int IntKind.i64 v13))), (117, PV.a (Atom.ptr (Ty.cons Ty.str (Ty.cons (Ty.sl Ty.str) Ty.unit)) (List.getD (g5_0 x0) (Int.toNat v13) (ByteArray.empty, [], ())))), (118, PV.a (Atom.ptr Ty.str (List.getD (g5_0 x0) (Int.toNat v13) (ByteArray.empty, [], ())).1)), (119, PV.a (Atom.val (Value.string (List.getD (g5_0 x0) (Int.toNat v13) (ByteArray.empty, [], ())).1))), (120, PV.a (Atom.val (Value.bool (g9_0 (g10_0 (g5_0 x0) (List.getD (g5_0 x0) (Int.toNat v13) (ByteArray.empty, [], ())).1) (List.getD (g5_0 x0) (Int.toNat v13) (ByteArray.empty, [], ())).1))))]
def L3_16 (x1 : List Int) (x0 : List Int) (v13 : Int) (v99 : Bool) : Heap := [Option.some (Arr.mk (Ty.cons Ty.str (Ty.cons Ty.str (Ty.cons (Ty.int IntKind.i64) Ty.unit))) (g5_1 x0) Bool.false Option.none Option.none), Option.some (Arr.mk Ty.str (g6_0 (g5_0 x0) (g5_1 x0) (g5_2 x0) (g5_3 x0)) Bool.false Option.none Option.none), Option.some (Arr.mk Ty.str (g10_0 (g5_0 x0) (List.getD (g5_0 x0) (Int.toNat v13) (ByteArray.empty, [], ())).1) Bool.false Option.none Option.none)]
def E3_30 (x1 : List Int) (v23 : Int) : Env := [(18, PV.a (Atom.sl (Ty.cons Ty.str (Ty.cons (Ty.sl Ty.str) Ty.unit)) (g11_0 x1))), (19, PV.a (Atom.osl 0 Option.none)), (20, PV.a (Atom.val (Value.string (g11_2 x1)))), (21, PV.a (Atom.osl 1 Option.none)), (23, PV.a (Atom.val (Value.int IntKind.i64 v23)))]
def L3_30 (x1 : List Int) (v23 : Int) : Heap := [Option.some (Arr.mk (Ty.cons Ty.str (Ty.cons Ty.str (Ty.cons (Ty.int IntKind.i64) Ty.unit))) (g11_1 x1) Bool.false Option.none Option.none), Option.some (Arr.mk (Ty.cons Ty.str (Ty.cons Ty.str (Ty.cons (Ty.int IntKind.i64) Ty.unit))) (g12_0 (g11_0 x1) (g11_1 x1) (g11_2 x1)) Bool.false Option.none Option.none)]
def E3_35 (v27 : Int) (x1 : List Int) : Env := [(19, PV.a (Atom.osl 0 Option.none)), (20, PV.a (Atom.val (Value.string (g11_2 x1)))), (21, PV.a (Atom.osl 1 Option.none)), (27, PV.a (Atom.val (Value.int IntKind.i64 v27)))]
def L3_35 (v27 : Int) (x1 : List Int) : Heap := [Option.some (Arr.mk (Ty.cons Ty.str (Ty.cons Ty.str (Ty.cons (Ty.int IntKind.i64) Ty.unit))) (g11_1 x1) Bool.false Option.none Option.none), Option.some (Arr.mk (Ty.cons Ty.str (Ty.cons Ty.str (Ty.cons (Ty.int IntKind.i64) Ty.unit))) (g12_0 (g11_0 x1) (g11_1 x1) (g11_2 x1)) Bool.false Option.none Option.none)]
def E3_17 (v17 : Int) (x1 : List Int) (x0 : List Int) (v13 : Int) (v99 : Bool) : Env := [(1, PV.a (Atom.sl (Ty.int IntKind.u8) x1)), (5, PV.a (Atom.sl (Ty.cons Ty.str (Ty.cons (Ty.sl Ty.str) Ty.unit)) (g5_0 x0))), (6, PV.a (Atom.osl 0 Option.none)), (7, PV.a (Atom.val (Value.string (g5_2 x0)))), (8, PV.a (Atom.val (Value.int IntKind.i64 (g5_3 x0)))), (9, PV.a (Atom.osl 1 Option.none)), (11, PV.a (Atom.val (Value.string (g7_0 (g5_0 x0) (g5_1 x0) (g5_2 x0) (g5_3 x0))))), (12, PV.a (Atom.val (Value.int IntKind.i64 (g7_1 (g5_0 x0) (g5_1 x0) (g5_2 x0) (g5_3 x0))))), (13, PV.a (Atom.val (Value.int IntKind.i64 v13))), (14, PV.a (Atom.val (Value.bool (g8_0 (g5_0 x0) (g5_1 x0) (List.getD (g5_0 x0) (Int.toNat v13) (ByteArray.empty, [], ())).1 (g5_2 x0) (g5_3 x0))))), (15, PV.a (Atom.osl 2 Option.none)), (17, PV.a (Atom.val (Value.int IntKind.i64 v17))), (87, PV.a (Atom.val (Value.bool (g8_0 (g5_0 x0) (g5_1 x0) (List.getD (g5_0 x0) (Int.toNat v13) (ByteArray.empty, [], ())).1 (g5_2 x0) (g5_3 x0))))), (88, PV.a (Atom.val (Value.bool (g8_0 (g5_0 x0) (g5_1 x0) (List.getD (g5_0 x0) (Int.toNat v13) (ByteArray.empty, [], ())).1 (g5_2 x0) (g5_3 x0))))), (99, PV.a (Atom.val (Value.bool v99))), (114, PV.a (Atom.osl 2 Option.none)), (115, PV.a (Atom.sl (Ty.cons Ty.str (Ty.cons (Ty.sl Ty.str) Ty.unit)) (g5_0 x0))), (116, PV.a (Atom.val (Value.int IntKind.i64 v13))), (117, PV.a (Atom.ptr (Ty.cons Ty.str (Ty.cons (Ty.sl Ty.str) Ty.unit)) (List.getD (g5_0 x0) (Int.toNat v13) (ByteArray.empty, [], ())))), (118, PV.a (Atom.ptr Ty.str (List.getD (g5_0 x0) (Int.toNat v13) (ByteArray.empty, [], ())).1)), (119, PV.a (Atom.val (Value.string (List.getD (g5_0 x0) (Int.toNat v13) (ByteArray.empty, [], ())).1))), (120, PV.a (Atom.val (Value.bool (g9_0 (g10_0 (g5_0 x0) (List.getD (g5_0 x0) (Int.toNat v13) (ByteArray.empty, [], ())).1) (List.getD (g5_0 x0) (Int.toNat v13) (ByteArray.empty, [], ())).1))))]
def L3_17 (v17 : Int) (x1 : List Int) (x0 : List Int) (v13 : Int) (v99 : Bool) : Heap := [Option.some (Arr.mk (Ty.cons Ty.str (Ty.cons Ty.str (Ty.cons (Ty.int IntKind.i64) Ty.unit))) (g5_1 x0) Bool.false Option.none Option.none), Option.some (Arr.mk Ty.str (g6_0 (g5_0 x0) (g5_1 x0) (g5_2 x0) (g5_3 x0)) Bool.false Option.none Option.none), Option.some (Arr.mk Ty.str (g10_0 (g5_0 x0) (List.getD (g5_0 x0) (Int.toNat v13) (ByteArray.empty, [], ())).1) Bool.false Option.none Option.none)]
def E3_29 (v247 : Bool) (x1 : List Int) (v23 : Int) : Env := [(18, PV.a (Atom.sl (Ty.cons Ty.str (Ty.cons (Ty.sl Ty.str) Ty.unit)) (g11_0 x1))), (19, PV.a (Atom.osl 0 Option.none)), (20, PV.a (Atom.val (Value.string (g11_2 x1)))), (21, PV.a (Atom.osl 1 Option.none)), (23, PV.a (Atom.val (Value.int IntKind.i64 v23))), (193, PV.a (Atom.sl (Ty.cons Ty.str (Ty.cons (Ty.sl Ty.str) Ty.unit)) (g11_0 x1))), (194, PV.a (Atom.osl 0 Option.none)), (195, PV.a (Atom.val (Value.string (g11_2 x1)))), (196, PV.a (Atom.optr 2 0 [1])), (197, PV.a (Atom.val (Value.string (List.getD (g12_0 (g11_0 x1) (g11_1 x1) (g11_2 x1)) (Int.toNat v23) (ByteArray.empty, ByteArray.empty, 0, ())).2.1))), (198, PV.a (Atom.optr 2 0 [2])), (199, PV.a (Atom.val (Value.int IntKind.i64 (List.getD (g12_0 (g11_0 x1) (g11_1 x1) (g11_2 x1)) (Int.toNat v23) (ByteArray.empty, ByteArray.empty, 0, ())).2.2.1))), (200, PV.a (Atom.val (Value.bool (g8_0 (g11_0 x1) (g11_1 x1) (g11_2 x1) (List.getD (g12_0 (g11_0 x1) (g11_1 x1) (g11_2 x1)) (Int.toNat v23) (ByteArray.empty, ByteArray.empty, 0, ())).2.1 (List.getD (g12_0 (g11_0 x1) (g11_1 x1) (g11_2 x1)) (Int.toNat v23) (ByteArray.empty, ByteArray.empty, 0, ())).2.2.1)))), (201, PV.a (Atom.val (Value.bool !g8_0 (g11_0 x1) (g11_1 x1) (g11_2 x1) (List.getD (g12_0 (g11_0 x1) (g11_1 x1) (g11_2 x1)) (Int.toNat v23) (ByteArray.empty, ByteArray.empty, 0, ())).2.1 (List.getD (g12_0 (g11_0 x1) (g11_1 x1) (g11_2 x1)) (Int.toNat v23) (ByteArray.empty, ByteArray.empty, 0, ())).2.2.1))), (204, PV.a (Atom.val (Value.bool (g13_1 (g14_0 (List.getD (g12_0 (g11_0 x1) (g11_1 x1) (g11_2 x1)) (Int.toNat v23) (ByteArray.empty, ByteArray.empty, 0, ()))))))), (205, PV.a (Atom.val (Value.bool !g13_1 (g14_0 (List.getD (g12_0 (g11_0 x1) (g11_1 x1) (g11_2 x1)) (Int.toNat v23) (ByteArray.empty, ByteArray.empty, 0, ())))))), (208, PV.a (Atom.st (Ty.cons Ty.str (Ty.cons Ty.str (Ty.cons (Ty.int IntKind.i64) Ty.unit))) (g13_0 (g14_0 (List.getD (g12_0 (g11_0 x1) (g11_1 x1) (g11_2 x1)) (Int.toNat v23) (ByteArray.empty, ByteArray.empty, 0, ())))))), (209, PV.a (Atom.st (Ty.cons Ty.str (Ty.cons Ty.str (Ty.cons (Ty.int IntKind.i64) Ty.unit))) (List.getD (g12_0 (g11_0 x1) (g11_1 x1) (g11_2 x1)) (Int.toNat v23) (ByteArray.empty, ByteArray.empty, 0, ())))), (210, PV.a (Atom.val (Value.bool !eqD (Ty.cons Ty.str (Ty.cons Ty.str (Ty.cons (Ty.int IntKind.i64) Ty.unit))) (g13_0 (g14_0 (List.getD (g12_0 (g11_0 x1) (g11_1 x1) (g11_2 x1)) (Int.toNat v23) (ByteArray.empty, ByteArray.empty, 0, ())))) (List.getD (g12_0 (g11_0 x1) (g11_1 x1) (g11_2 x1)) (Int.toNat v23) (ByteArray.empty, ByteArray.empty, 0, ()))))), (213, PV.a (Atom.val (Value.int IntKind.i64 v23))), (214, PV.a (Atom.val (Value.bool (Decidable.decide (v23 > 0))))), (215, PV.a (Atom.val (Value.bool (Decidable.decide (v23 > 0))))), (247, PV.a (Atom.val (Value.bool v247)))]
def L3_29 (v247 : Bool) (x1 : List Int) (v23 : Int) : Heap := [Option.some (Arr.mk (Ty.cons Ty.str (Ty.cons Ty.str (Ty.cons (Ty.int IntKind.i64) Ty.unit))) (g11_1 x1) Bool.false Option.none Option.none), Option.some (Arr.mk (Ty.cons Ty.str (Ty.cons Ty.str (Ty.cons (Ty.int IntKind.i64) Ty.unit))) (g12_0 (g11_0 x1) (g11_1 x1) (g11_2 x1)) Bool.false Option.none Option.none), Option.some (Arr.mk (Ty.cons Ty.str (Ty.cons Ty.str (Ty.cons (Ty.int IntKind.i64) Ty.unit))) [List.getD (g12_0 (g11_0 x1) (g11_1 x1) (g11_2 x1)) (Int.toNat v23) (ByteArray.empty, ByteArray.empty, 0, ())] Bool.true Option.none (Option.some Bool.false))]
def E3_37 (x1 : List Int) (v27 : Int) : Env := [(19, PV.a (Atom.osl 0 Option.none)), (20, PV.a (Atom.val (Value.string (g11_2 x1)))), (21, PV.a (Atom.osl 1 Option.none)), (27, PV.a (Atom.val (Value.int IntKind.i64 v27)))]
def L3_37 (x1 : List Int) (v27 : Int) : Heap := [Option.some (Arr.mk (Ty.cons Ty.str (Ty.cons Ty.str (Ty.cons (Ty.int IntKind.i64) Ty.unit))) (g11_1 x1) Bool.false Option.none Option.none), Option.some (Arr.mk (Ty.cons Ty.str (Ty.cons Ty.str (Ty.cons (Ty.int IntKind.i64) Ty.unit))) (g12_0 (g11_0 x1) (g11_1 x1) (g11_2 x1)) Bool.false Option.none Option.none)]
def E3_19 (x1 : List Int) (x0 : List Int) (v13 : Int) (v17 : Int) (v99 : Bool) : Env := [(1, PV.a (Atom.sl (Ty.int IntKind.u8) x1)), (5, PV.a (Atom.sl (Ty.cons Ty.str (Ty.cons (Ty.sl Ty.str) Ty.unit)) (g5_0 x0))), (6, PV.a (Atom.osl 0 Option.none)), (7, PV.a (Atom.val (Value.string (g5_2 x0)))), (8, PV.a (Atom.val (Value.int IntKind.i64 (g5_3 x0)))), (9, PV.a (Atom.osl 1 Option.none)), (11, PV.a (Atom.val (Value.string (g7_0 (g5_0 x0) (g5_1 x0) (g5_2 x0) (g5_3 x0))))), (12, PV.a (Atom.val (Value.int IntKind.i64 (g7_1 (g5_0 x0) (g5_1 x0) (g5_2 x0) (g5_3 x0))))), (13, PV.a (Atom.val (Value.int IntKind.i64 v13))), (14, PV.a (Atom.val (Value.bool (g8_0 (g5_0 x0) (g5_1 x0) (List.getD (g5_0 x0) (Int.toNat v13) (ByteArray.empty, [], ())).1 (g5_2 x0) (g5_3 x0))))), (15, PV.a (Atom.osl 2 Option.none)), (17, PV.a (Atom.val (Value.int IntKind.i64 v17))), (87, PV.a (Atom.val (Value.bool (g8_0 (g5_0 x0) (g5_1 x0) (List.getD (g5_0 x0) (Int.toNat v13) (ByteArray.empty, [], ())).1 (g5_2 x0) (g5_3 x0))))), (88, PV.a (Atom.val (Value.bool (g8_0 (g5_0 x0) (g5_1 x0) (List.getD (g5_0 x0) (Int.toNat v13) (ByteArray.empty, [], ())).1 (g5_2 x0) (g5_3 x0))))), (99, PV.a (Atom.val (Value.bool v99))), (114, PV.a (Atom.osl 2 Option.none)), (115, PV.a (Atom.sl (Ty.cons Ty.str (Ty.cons (Ty.sl Ty.str) Ty.unit)) (g5_0 x0))), (116, PV.a (Atom.val (Value.int IntKind.i64 v13))), (117, PV.a (Atom.ptr (Ty.cons Ty.str (Ty.cons (Ty.sl Ty.str) Ty.unit)) (List.getD (g5_0 x0) (Int.toNat v13) (ByteArray.empty, [], ())))), (118, PV.a (Atom.ptr Ty.str (List.getD (g5_0 x0) (Int.toNat v13) (ByteArray.empty, [], ())).1)), (119, PV.a (Atom.val (Value.string (List.getD (g5_0 x0) (Int.toNat v13) (ByteArray.empty, [], ())).1))), (120, PV.a (Atom.val (Value.bool (g9_0 (g10_0 (g5_0 x0) (List.getD (g5_0 x0) (Int.toNat v13) (ByteArray.empty, [], ())).1) (List.getD (g5_0 x0) (Int.toNat v13) (ByteArray.empty, [], ())).1))))]
def L3_19 (x1 : List Int) (x0 : List Int) (v13 : Int) (v17 : Int) (v99 : Bool) : Heap := [Option.some (Arr.mk (Ty.cons Ty.str (Ty.cons Ty.str (Ty.cons (Ty.int IntKind.i64) Ty.unit))) (g5_1 x0) Bool.false Option.none Option.none), Option.some (Arr.mk Ty.str (g6_0 (g5_0 x0) (g5_1 x0) (g5_2 x0) (g5_3 x0)) Bool.false Option.none Option.none), Option.some (Arr.mk Ty.str (g10_0 (g5_0 x0) (List.getD (g5_0 x0) (Int.toNat v13) (ByteArray.empty, [], ())).1) Bool.false Option.none Option.none)]
def E3_9 (x1 : List Int) (x0 : List Int) (v13 : Int) (v99 : Bool) : Env := [(1, PV.a (Atom.sl (Ty.int IntKind.u8) x1)), (5, PV.a (Atom.sl (Ty.cons Ty.str (Ty.cons (Ty.sl Ty.str) Ty.unit)) (g5_0 x0))), (6, PV.a (Atom.osl 0 Option.none)), (7, PV.a (Atom.val (Value.string (g5_2 x0)))), (8, PV.a (Atom.val (Value.int IntKind.i64 (g5_3 x0)))), (9, PV.a (Atom.osl 1 Option.none)), (11, PV.a (Atom.val (Value.string (g7_0 (g5_0 x0) (g5_1 x0) (g5_2 x0) (g5_3 x0))))), (12, PV.a (Atom.val (Value.int IntKind.i64 (g7_1 (g5_0 x0) (g5_1 x0) (g5_2 x0) (g5_3 x0))))), (13, PV.a (Atom.val (Value.int IntKind.i64 v13))), (87, PV.a (Atom.val (Value.bool (g8_0 (g5_0 x0) (g5_1 x0) (List.getD (g5_0 x0) (Int.toNat v13) (ByteArray.empty, [], ())).1 (g5_2 x0) (g5_3 x0))))), (88, PV.a (Atom.val (Value.bool (g8_0 (g5_0 x0) (g5_1 x0) (List.getD (g5_0 x0) (Int.toNat v13) (ByteArray.empty, [], ())).1 (g5_2 x0) (g5_3 x0))))), (99, PV.a (Atom.val (Value.bool v99))), (114, PV.a (Atom.osl 2 Option.none)), (115, PV.a (Atom.sl (Ty.cons Ty.str (Ty.cons (Ty.sl Ty.str) Ty.unit)) (g5_0 x0))), (116, PV.a (Atom.val (Value.int IntKind.i64 v13))), (117, PV.a (Atom.ptr (Ty.cons Ty.str (Ty.cons (Ty.sl Ty.str) Ty.unit)) (List.getD (g5_0 x0) (Int.toNat v13) (ByteArray.empty, [], ())))), (118, PV.a (Atom.ptr Ty.str (List.getD (g5_0 x0) (Int.toNat v13) (ByteArray.empty, [], ())).1)), (119, PV.a (Atom.val (Value.string (List.getD (g5_0 x0) (Int.toNat v13) (ByteArray.empty, [], ())).1))), (120, PV.a (Atom.val (Value.bool (g9_0 (g10_0 (g5_0 x0) (List.getD (g5_0 x0) (Int.toNat v13) (ByteArray.empty, [], ())).1) (List.getD (g5_0 x0) (Int.toNat v13) (ByteArray.empty, [], ())).1))))]
def L3_9 (x1 : List Int) (x0 : List Int) (v13 : Int) (v99 : Bool) : Heap := [Option.some (Arr.mk (Ty.cons Ty.str (Ty.cons Ty.str (Ty.cons (Ty.int IntKind.i64) Ty.unit))) (g5_1 x0) Bool.false Option.none Option.none), Option.some (Arr.mk Ty.str (g6_0 (g5_0 x0) (g5_1 x0) (g5_2 x0) (g5_3 x0)) Bool.false Option.none Option.none), Option.some (Arr.mk Ty.str (g10_0 (g5_0 x0) (List.getD (g5_0 x0) (Int.toNat v13) (ByteArray.empty, [], ())).1) Bool.false Option.none Option.none)]
def E3_36 (x1 : List Int) (v27 : Int) : Env := [(19, PV.a (Atom.osl 0 Option.none)), (20, PV.a (Atom.val (Value.string (g11_2 x1)))), (21, PV.a (Atom.osl 1 Option.none)), (27, PV.a (Atom.val (Value.int IntKind.i64 v27)))]
def L3_36 (x1 : List Int) (v27 : Int) : Heap := [Option.some (Arr.mk (Ty.cons Ty.str (Ty.cons Ty.str (Ty.cons (Ty.int IntKind.i64) Ty.unit))) (g11_1 x1) Bool.false Option.none Option.none), Option.some (Arr.mk (Ty.cons Ty.str (Ty.cons Ty.str (Ty.cons (Ty.int IntKind.i64) Ty.unit))) (g12_0 (g11_0 x1) (g11_1 x1) (g11_2 x1)) Bool.false Option.none Option.none)]
def E3_38 (x1 : List Int) (v27 : Int) : Env := [(19, PV.a (Atom.osl 0 Option.none)), (20, PV.a (Atom.val (Value.string (g11_2 x1)))), (21, PV.a (Atom.osl 1 Option.none)), (27, PV.a (Atom.val (Value.int IntKind.i64 v27)))]
def L3_38 (x1 : List Int) (v27 : Int) : Heap := [Option.some (Arr.mk (Ty.cons Ty.str (Ty.cons Ty.str (Ty.cons (Ty.int IntKind.i64) Ty.unit))) (g11_1 x1) Bool.false Option.none Option.none), Option.some (Arr.mk (Ty.cons Ty.str (Ty.cons Ty.str (Ty.cons (Ty.int IntKind.i64) Ty.unit))) (g12_0 (g11_0 x1) (g11_1 x1) (g11_2 x1)) Bool.false Option.none Option.none)]
def E3_18 (x1 : List Int) (x0 : List Int) (v13 : Int) (v17 : Int) (v99 : Bool) : Env := [(1, PV.a (Atom.sl (Ty.int IntKind.u8) x1)), (5, PV.a (Atom.sl (Ty.cons Ty.str (Ty.cons (Ty.sl Ty.str) Ty.unit)) (g5_0 x0))), (6, PV.a (Atom.osl 0 Option.none)), (7, PV.a (Atom.val (Value.string (g5_2 x0)))), (8, PV.a (Atom.val (Value.int IntKind.i64 (g5_3 x0)))), (9, PV.a (Atom.osl 1 Option.none)), (11, PV.a (Atom.val (Value.string (g7_0 (g5_0 x0) (g5_1 x0) (g5_2 x0) (g5_3 x0))))), (12, PV.a (Atom.val (Value.int IntKind.i64 (g7_1 (g5_0 x0) (g5_1 x0) (g5_2 x0) (g5_3 x0))))), (13, PV.a (Atom.val (Value.int IntKind.i64 v13))), (14, PV.a (Atom.val (Value.bool (g8_0 (g5_0 x0) (g5_1 x0) (List.getD (g5_0 x0) (Int.toNat v13) (ByteArray.empty, [], ())).1 (g5_2 x0) (g5_3 x0))))), (15, PV.a (Atom.osl 2 Option.none)), (17, PV.a (Atom.val (Value.int IntKind.i64 v17))), (87, PV.a (Atom.val (Value.bool (g8_0 (g5_0 x0) (g5_1 x0) (List.getD (g5_0 x0) (Int.toNat v13) (ByteArray.empty, [], ())).1 (g5_2 x0) (g5_3 x0))))), (88, PV.a (Atom.val (Value.bool (g8_0 (g5_0 x0) (g5_1 x0) (List.getD (g5_0 x0) (Int.toNat v13) (ByteArray.empty, [], ())).1 (g5_2 x0) (g5_3 x0))))), (99, PV.a (Atom.val (Value.bool v99))), (114, PV.a (Atom.osl 2 Option.none)), (115, PV.a (Atom.sl (Ty.cons Ty.str (Ty.cons (Ty.sl Ty.str) Ty.unit)) (g5_0 x0))), (116, PV.a (Atom.val (Value.int IntKind.i64 v13))), (117, PV.a (Atom.ptr (Ty.cons Ty.str (Ty.cons (Ty.sl Ty.str) Ty.unit)) (List.getD (g5_0 x0) (Int.toNat v13) (ByteArray.empty, [], ())))), (118, PV.a (Atom.ptr Ty.str (List.getD (g5_0 x0) (Int.toNat v13) (ByteArray.empty, [], ())).1)), (119, PV.a (Atom.val (Value.string (List.getD (g5_0 x0) (Int.toNat v13) (ByteArray.empty, [], ())).1))), (120, PV.a (Atom.val (Value.bool (g9_0 (g10_0 (g5_0 x0) (List.getD (g5_0 x0) (Int.toNat v13) (ByteArray.empty, [], ())).1) (List.getD (g5_0 x0) (Int.toNat v13) (ByteArray.empty, [], ())).1))))]
def L3_18 (x1 : List Int) (x0 : List Int) (v13 : Int) (v17 : Int) (v99 : Bool) : Heap := [Option.some (Arr.mk (Ty.cons Ty.str (Ty.cons Ty.str (Ty.cons (Ty.int IntKind.i64) Ty.unit))) (g5_1 x0) Bool.false Option.none Option.none), Option.some (Arr.mk Ty.str (g6_0 (g5_0 x0) (g5_1 x0) (g5_2 x0) (g5_3 x0)) Bool.false Option.none Option.none), Option.some (Arr.mk Ty.str (g10_0 (g5_0 x0) (List.getD (g5_0 x0) (Int.toNat v13) (ByteArray.empty, [], ())).1) Bool.false Option.none Option.none)]
def E3_40 (v28 : Bool) (v29 : Int) (x1 : List Int) (v27 : Int) : Env := [(19, PV.a (Atom.osl 0 Option.none)), (20, PV.a (Atom.val (Value.string (g11_2 x1)))), (21, PV.a (Atom.osl 1 Option.none)), (27, PV.a (Atom.val (Value.int IntKind.i64 v27))), (28, PV.a (Atom.val (Value.bool v28))), (29, PV.a (Atom.val (Value.int IntKind.i64 v29)))]
def L3_40 (v28 : Bool) (v29 : Int) (x1 : List Int) (v27 : Int) : Heap := [Option.some (Arr.mk (Ty.cons Ty.str (Ty.cons Ty.str (Ty.cons (Ty.int IntKind.i64) Ty.unit))) (g11_1 x1) Bool.false Option.none Option.none), Option.some (Arr.mk (Ty.cons Ty.str (Ty.cons Ty.str (Ty.cons (Ty.int IntKind.i64) Ty.unit))) (g12_0 (g11_0 x1) (g11_1 x1) (g11_2 x1)) Bool.false Option.none Option.none)]
def E3_42 (x1 : List Int) (v27 : Int) (v28 : Bool) (v29 : Int) : Env := [(19, PV.a (Atom.osl 0 Option.none)), (20, PV.a (Atom.val (Value.string (g11_2 x1)))), (21, PV.a (Atom.osl 1 Option.none)), (27, PV.a (Atom.val (Value.int IntKind.i64 v27))), (28, PV.a (Atom.val (Value.bool v28))), (29, PV.a (Atom.val (Value.int IntKind.i64 v29)))]
def L3_42 (x1 : List Int) (v27 : Int) (v28 : Bool) (v29 : Int) : Heap := [Option.some (Arr.mk (Ty.cons Ty.str (Ty.cons Ty.str (Ty.cons (Ty.int IntKind.i64) Ty.unit))) (g11_1 x1) Bool.false Option.none Option.none), Option.some (Arr.mk (Ty.cons Ty.str (Ty.cons Ty.str (Ty.cons (Ty.int IntKind.i64) Ty.unit))) (g12_0 (g11_0 x1) (g11_1 x1) (g11_2 x1)) Bool.false Option.none Option.none)]
mutual
def R3 : Nat → List Int → List Int → List Dyn → Prop
  | 0, _, _, _ => False
  | n + 1, x0, x1, ds => (if (g4_0 x0) = true then (ds = [Dyn.mk Ty.bool Bool.true]) else (if (g4_0 x1) = true then (ds = [Dyn.mk Ty.bool Bool.true]) else (R3_3 n (x0) (x1) ds)))
def R3_3 : Nat → List Int → List Int → List Dyn → Prop
  | 0, _, _, _ => False
  | n + 1, x0, x1, ds => ((P5 x0) ∧ ((P6 (g5_0 x0) (g5_1 x0) (g5_2 x0) (g5_3 x0)) ∧ ((P7 (g5_0 x0) (g5_1 x0) (g5_2 x0) (g5_3 x0)) ∧ (if (g6_1 (g5_0 x0) (g5_1 x0) (g5_2 x0) (g5_3 x0) == 0) = true then (R3_8 n (0) (x1) (x0) ds) else (R3_23 n (x1) ds)))))
def R3_8 : Nat → Int → List Int → List Int → List Dyn → Prop
  | 0, _, _, _, _ => False
  | n + 1, v13, x1, x0, ds => (if (Decidable.decide (v13 < (↑(List.length (g5_0 x0)) : Int))) = true then (R3_10 n (x1) (x0) (v13) ds) else (if (!(g7_1 (g5_0 x0) (g5_1 x0) (g5_2 x0) (g5_3 x0) == 0) == Decidable.decide ((↑(List.length (g6_0 (g5_0 x0) (g5_1 x0) (g5_2 x0) (g5_3 x0))) : Int) > 0)) = true then (ds = [Dyn.mk Ty.bool Bool.false]) else (if (g7_1 (g5_0 x0) (g5_1 x0) (g5_2 x0) (g5_3 x0) == 0) = true then (if (!g9_0 (g6_0 (g5_0 x0) (g5_1 x0) (g5_2 x0) (g5_3 x0)) (g7_0 (g5_0 x0) (g5_1 x0) (g5_2 x0) (g5_3 x0))) = true then (ds = [Dyn.mk Ty.bool Bool.false]) else (R3_23 n (x1) ds)) else (R3_23 n (x1) ds))))
def R3_23 : Nat → List Int → List Dyn → Prop
  | 0, _, _ => False
  | n + 1, x1, ds => ((P11 x1) ∧ ((P12 (g11_0 x1) (g11_1 x1) (g11_2 x1)) ∧ (if (g12_1 (g11_0 x1) (g11_1 x1) (g11_2 x1) != 0) = true then (ds = [Dyn.mk Ty.bool ((↑(List.length (g12_0 (g11_0 x1) (g11_1 x1) (g11_2 x1))) : Int) == 0)]) else (R3_27 n (x1) ds))))
def R3_10 : Nat → List Int → List Int → Int → List Dyn → Prop
  | 0, _, _, _, _ => False
  | n + 1, x1, x0, v13, ds => ((0 ≤ v13) ∧ (v13 < (↑(List.length (g5_0 x0)) : Int)) ∧ ((P8 (g5_0 x0) (g5_1 x0) (List.getD (g5_0 x0) (Int.toNat v13) (ByteArray.empty, [], ())).1 (g5_2 x0) (g5_3 x0)) ∧ ((0 ≤ v13) ∧ (v13 < (↑(List.length (g5_0 x0)) : Int)) ∧ (if (!g8_0 (g5_0 x0) (g5_1 x0) (List.getD (g5_0 x0) (Int.toNat v13) (ByteArray.empty, [], ())).1 (g5_2 x0) (g5_3 x0) == g9_0 (g6_0 (g5_0 x0) (g5_1 x0) (g5_2 x0) (g5_3 x0)) (List.getD (g5_0 x0) (Int.toNat v13) (ByteArray.empty, [], ())).1) = true then (ds = [Dyn.mk Ty.bool Bool.false]) else (if (g8_0 (g5_0 x0) (g5_1 x0) (List.getD (g5_0 x0) (Int.toNat v13) (ByteArray.empty, [], ())).1 (g5_2 x0) (g5_3 x0)) = true then ((0 ≤ v13) ∧ (v13 < (↑(List.length (g5_0 x0)) : Int)) ∧ ((P8 (g5_0 x0) (g5_1 x0) (List.getD (g5_0 x0) (Int.toNat v13) (ByteArray.empty, [], ())).1 (g5_2 x0) 1) ∧ (if (!g8_0 (g5_0 x0) (g5_1 x0) (List.getD (g5_0 x0) (Int.toNat v13) (ByteArray.empty, [], ())).1 (g5_2 x0) 1) = true then (ds = [Dyn.mk Ty.bool Bool.false]) else (R3_13 n (!g8_0 (g5_0 x0) (g5_1 x0) (List.getD (g5_0 x0) (Int.toNat v13) (ByteArray.empty, [], ())).1 (g5_2 x0) 1) (x1) (x0) (v13) ds)))) else (R3_13 n (Bool.false) (x1) (x0) (v13) ds))))))
def R3_27 : Nat → List Int → List Dyn → Prop
  | 0, _, _ => False
  | n + 1, x1, ds => (R3_28 n (0) (x1) ds)
def R3_13 : Nat → Bool → List Int → List Int → Int → List Dyn → Prop
  | 0, _, _, _, _, _ => False
  | n + 1, v99, x1, x0, v13, ds => ((0 ≤ v13) ∧ (v13 < (↑(List.length (g5_0 x0)) : Int)) ∧ ((P10 (g5_0 x0) (List.getD (g5_0 x0) (Int.toNat v13) (ByteArray.empty, [], ())).1) ∧ (if (g10_1 (g5_0 x0) (List.getD (g5_0 x0) (Int.toNat v13) (ByteArray.empty, [], ())).1 != 0) = true then (ds = [Dyn.mk Ty.bool Bool.false]) else ((0 ≤ v13) ∧ (v13 < (↑(List.length (g5_0 x0)) : Int)) ∧ (if (g9_0 (g10_0 (g5_0 x0) (List.getD (g5_0 x0) (Int.toNat v13) (ByteArray.empty, [], ())).1) (List.getD (g5_0 x0) (Int.toNat v13) (ByteArray.empty, [], ())).1) = true then (ds = [Dyn.mk Ty.bool Bool.false]) else (R3_16 n (x1) (x0) (v13) (v99) ds))))))
def R3_28 : Nat → Int → List Int → List Dyn → Prop
  | 0, _, _, _ => False
  | n + 1, v23, x1, ds => (if (Decidable.decide (v23 < (↑(List.length (g12_0 (g11_0 x1) (g11_1 x1) (g11_2 x1))) : Int))) = true then (R3_30 n (x1) (v23) ds) else (R3_35 n (0) (x1) ds))
def R3_16 : Nat → List Int → List Int → Int → Bool → List Dyn → Prop
  | 0, _, _, _, _, _ => False
  | n + 1, x1, x0, v13, v99, ds => (R3_17 n (0) (x1) (x0) (v13) (v99) ds)
def R3_30 : Nat → List Int → Int → List Dyn → Prop
  | 0, _, _, _ => False
  | n + 1, x1, v23, ds => ((0 ≤ v23) ∧ (v23 < (↑(List.length (g12_0 (g11_0 x1) (g11_1 x1) (g11_2 x1))) : Int)) ∧ ((P14 (List.getD (g12_0 (g11_0 x1) (g11_1 x1) (g11_2 x1)) (Int.toNat v23) (ByteArray.empty, ByteArray.empty, 0, ()))) ∧ ((P13 (g14_0 (List.getD (g12_0 (g11_0 x1) (g11_1 x1) (g11_2 x1)) (Int.toNat v23) (ByteArray.empty, ByteArray.empty, 0, ())))) ∧ (if (!ByteArray.toList (List.getD (g12_0 (g11_0 x1) (g11_1 x1) (g11_2 x1)) (Int.toNat v23) (ByteArray.empty, ByteArray.empty, 0, ())).1 == ByteArray.toList (g11_2 x1)) = true then (ds = [Dyn.mk Ty.bool Bool.false]) else ((P8 (g11_0 x1) (g11_1 x1) (g11_2 x1) (List.getD (g12_0 (g11_0 x1) (g11_1 x1) (g11_2 x1)) (Int.toNat v23) (ByteArray.empty, ByteArray.empty, 0, ())).2.1 (List.getD (g12_0 (g11_0 x1) (g11_1 x1) (g11_2 x1)) (Int.toNat v23) (ByteArray.empty, ByteArray.empty, 0, ())).2.2.1) ∧ (if (!g8_0 (g11_0 x1) (g11_1 x1) (g11_2 x1) (List.getD (g12_0 (g11_0 x1) (g11_1 x1) (g11_2 x1)) (Int.toNat v23) (ByteArray.empty, ByteArray.empty, 0, ())).2.1 (List.getD (g12_0 (g11_0 x1) (g11_1 x1) (g11_2 x1)) (Int.toNat v23) (ByteArray.empty, ByteArray.empty, 0, ())).2.2.1) = true then (ds = [Dyn.mk Ty.bool Bool.false]) else (if (!g13_1 (g14_0 (List.getD (g12_0 (g11_0 x1) (g11_1 x1) (g11_2 x1)) (Int.toNat v23) (ByteArray.empty, ByteArray.empty, 0, ())))) = true then (ds = [Dyn.mk Ty.bool Bool.false]) else (if (!eqD (Ty.cons Ty.str (Ty.cons Ty.str (Ty.cons (Ty.int IntKind.i64) Ty.unit))) (g13_0 (g14_0 (List.getD (g12_0 (g11_0 x1) (g11_1 x1) (g11_2 x1)) (Int.toNat v23) (ByteArray.empty, ByteArray.empty, 0, ())))) (List.getD (g12_0 (g11_0 x1) (g11_1 x1) (g11_2 x1)) (Int.toNat v23) (ByteArray.empty, ByteArray.empty, 0, ()))) = true then (ds = [Dyn.mk Ty.bool Bool.false]) else (if (Decidable.decide (v23 > 0)) = true then ((InR IntKind.i64 (v23 - 1)) ∧ ((0 ≤ v23 - 1) ∧ (v23 - 1 < (↑(List.length (g12_0 (g11_0 x1) (g11_1 x1) (g11_2 x1))) : Int)) ∧ (if (!(Op.bytesLess (ByteArray.toList (List.getD (g12_0 (g11_0 x1) (g11_1 x1) (g11_2 x1)) (Int.toNat (v23 - 1)) (ByteArray.empty, ByteArray.empty, 0, ())).2.1) (ByteArray.toList (List.getD (g12_0 (g11_0 x1) (g11_1 x1) (g11_2 x1)) (Int.toNat v23) (ByteArray.empty, ByteArray.empty, 0, ())).2.1) || ByteArray.toList (List.getD (g12_0 (g11_0 x1) (g11_1 x1) (g11_2 x1)) (Int.toNat (v23 - 1)) (ByteArray.empty, ByteArray.empty, 0, ())).2.1 == ByteArray.toList (List.getD (g12_0 (g11_0 x1) (g11_1 x1) (g11_2 x1)) (Int.toNat v23) (ByteArray.empty, ByteArray.empty, 0, ())).2.1)) = true then (ds = [Dyn.mk Ty.bool Bool.false]) else ((InR IntKind.i64 (v23 - 1)) ∧ ((0 ≤ v23 - 1) ∧ (v23 - 1 < (↑(List.length (g12_0 (g11_0 x1) (g11_1 x1) (g11_2 x1))) : Int)) ∧ (if (ByteArray.toList (List.getD (g12_0 (g11_0 x1) (g11_1 x1) (g11_2 x1)) (Int.toNat (v23 - 1)) (ByteArray.empty, ByteArray.empty, 0, ())).2.1 == ByteArray.toList (List.getD (g12_0 (g11_0 x1) (g11_1 x1) (g11_2 x1)) (Int.toNat v23) (ByteArray.empty, ByteArray.empty, 0, ())).2.1) = true then ((InR IntKind.i64 (v23 - 1)) ∧ ((0 ≤ v23 - 1) ∧ (v23 - 1 < (↑(List.length (g12_0 (g11_0 x1) (g11_1 x1) (g11_2 x1))) : Int)) ∧ (if (Decidable.decide ((List.getD (g12_0 (g11_0 x1) (g11_1 x1) (g11_2 x1)) (Int.toNat (v23 - 1)) (ByteArray.empty, ByteArray.empty, 0, ())).2.2.1 ≥ (List.getD (g12_0 (g11_0 x1) (g11_1 x1) (g11_2 x1)) (Int.toNat v23) (ByteArray.empty, ByteArray.empty, 0, ())).2.2.1)) = true then (ds = [Dyn.mk Ty.bool Bool.false]) else (R3_29 n (Decidable.decide ((List.getD (g12_0 (g11_0 x1) (g11_1 x1) (g11_2 x1)) (Int.toNat (v23 - 1)) (ByteArray.empty, ByteArray.empty, 0, ())).2.2.1 ≥ (List.getD (g12_0 (g11_0 x1) (g11_1 x1) (g11_2 x1)) (Int.toNat v23) (ByteArray.empty, ByteArray.empty, 0, ())).2.2.1)) (x1) (v23) ds)))) else (R3_29 n (Bool.false) (x1) (v23) ds))))))) else (R3_29 n (Bool.false) (x1) (v23) ds))))))))))
def R3_35 : Nat → Int → List Int → List Dyn → Prop
  | 0, _, _, _ => False
  | n + 1, v27, x1, ds => (if (Decidable.decide (v27 < (↑(List.length (g11_1 x1)) : Int))) = true then (R3_37 n (x1) (v27) ds) else (ds = [Dyn.mk Ty.bool Bool.true]))
def R3_17 : Nat → Int → List Int → List Int → Int → Bool → List Dyn → Prop
  | 0, _, _, _, _, _, _ => False
  | n + 1, v17, x1, x0, v13, v99, ds => (if (Decidable.decide (v17 < (↑(List.length (g10_0 (g5_0 x0) (List.getD (g5_0 x0) (Int.toNat v13) (ByteArray.empty, [], ())).1)) : Int))) = true then (R3_19 n (x1) (x0) (v13) (v17) (v99) ds) else (R3_9 n (x1) (x0) (v13) (v99) ds))
def R3_29 : Nat → Bool → List Int → Int → List Dyn → Prop
  | 0, _, _, _, _ => False
  | n + 1, v247, x1, v23, ds => ((InR IntKind.i64 (v23 + 1)) ∧ (R3_28 n (v23 + 1) (x1) ds))
def R3_37 : Nat → List Int → Int → List Dyn → Prop
  | 0, _, _, _ => False
  | n + 1, x1, v27, ds => ((0 ≤ v27) ∧ (v27 < (↑(List.length (g11_1 x1)) : Int)) ∧ (if (!ByteArray.toList (List.getD (g11_1 x1) (Int.toNat v27) (ByteArray.empty, ByteArray.empty, 0, ())).1 == ByteArray.toList (g11_2 x1)) = true then (R3_36 n (x1) (v27) ds) else (R3_38 n (x1) (v27) ds)))
def R3_19 : Nat → List Int → List Int → Int → Int → Bool → List Dyn → Prop
  | 0, _, _, _, _, _, _ => False
  | n + 1, x1, x0, v13, v17, v99, ds => ((0 ≤ v17) ∧ (v17 < (↑(List.length (g10_0 (g5_0 x0) (List.getD (g5_0 x0) (Int.toNat v13) (ByteArray.empty, [], ())).1)) : Int)) ∧ (if (g9_0 (g6_0 (g5_0 x0) (g5_1 x0) (g5_2 x0) (g5_3 x0)) (List.getD (g10_0 (g5_0 x0) (List.getD (g5_0 x0) (Int.toNat v13) (ByteArray.empty, [], ())).1) (Int.toNat v17) ByteArray.empty)) = true then (if (!g8_0 (g5_0 x0) (g5_1 x0) (List.getD (g5_0 x0) (Int.toNat v13) (ByteArray.empty, [], ())).1 (g5_2 x0) (g5_3 x0)) = true then (ds = [Dyn.mk Ty.bool Bool.false]) else (R3_18 n (x1) (x0) (v13) (v17) (v99) ds)) else (R3_18 n (x1) (x0) (v13) (v17) (v99) ds)))
def R3_9 : Nat → List Int → List Int → Int → Bool → List Dyn → Prop
  | 0, _, _, _, _, _ => False
  | n + 1, x1, x0, v13, v99, ds => ((InR IntKind.i64 (v13 + 1)) ∧ (R3_8 n (v13 + 1) (x1) (x0) ds))
def R3_36 : Nat → List Int → Int → List Dyn → Prop
  | 0, _, _, _ => False
  | n + 1, x1, v27, ds => ((InR IntKind.i64 (v27 + 1)) ∧ (R3_35 n (v27 + 1) (x1) ds))
def R3_38 : Nat → List Int → Int → List Dyn → Prop
  | 0, _, _, _ => False
  | n + 1, x1, v27, ds => (R3_40 n (Bool.false) (0) (x1) (v27) ds)
def R3_18 : Nat → List Int → List Int → Int → Int → Bool → List Dyn → Prop
  | 0, _, _, _, _, _, _ => False
  | n + 1, x1, x0, v13, v17, v99, ds => ((InR IntKind.i64 (v17 + 1)) ∧ (R3_17 n (v17 + 1) (x1) (x0) (v13) (v99) ds))
def R3_40 : Nat → Bool → Int → List Int → Int → List Dyn → Prop
  | 0, _, _, _, _, _ => False
  | n + 1, v28, v29, x1, v27, ds => (if (Decidable.decide (v29 < (↑(List.length (g12_0 (g11_0 x1) (g11_1 x1) (g11_2 x1))) : Int))) = true then (R3_42 n (x1) (v27) (v28) (v29) ds) else (if (!v28) = true then (ds = [Dyn.mk Ty.bool Bool.false]) else (R3_36 n (x1) (v27) ds)))
def R3_42 : Nat → List Int → Int → Bool → Int → List Dyn → Prop
  | 0, _, _, _, _, _ => False
  | n + 1, x1, v27, v28, v29, ds => (if (v28) = true then ((InR IntKind.i64 (v29 + 1)) ∧ (R3_40 n (Bool.true) (v29 + 1) (x1) (v27) ds)) else ((0 ≤ v29) ∧ (v29 < (↑(List.length (g12_0 (g11_0 x1) (g11_1 x1) (g11_2 x1))) : Int)) ∧ ((0 ≤ v27) ∧ (v27 < (↑(List.length (g11_1 x1)) : Int)) ∧ ((InR IntKind.i64 (v29 + 1)) ∧ (R3_40 n (eqD (Ty.cons Ty.str (Ty.cons Ty.str (Ty.cons (Ty.int IntKind.i64) Ty.unit))) (List.getD (g12_0 (g11_0 x1) (g11_1 x1) (g11_2 x1)) (Int.toNat v29) (ByteArray.empty, ByteArray.empty, 0, ())) (List.getD (g11_1 x1) (Int.toNat v27) (ByteArray.empty, ByteArray.empty, 0, ()))) (v29 + 1) (x1) (v27) ds)))))
end
theorem snd3 : ∀ n, (∀ (x0 : List Int) (x1 : List Int) ds, R3 n x0 x1 ds → ∀ K q, AtV Tryz.prog 3 (PostR kds3 oks3 ds [] [] q K) 282 K q [] [.code b3] (entE 0 0 sig3 (x0, x1, ())) (entL sig3 (x0, x1, ()))) ∧ (∀ (x0 : List Int) (x1 : List Int) ds, R3_3 n x0 x1 ds → ∀ K q, AtV Tryz.prog 3 (PostR kds3 oks3 ds [] [] q K) 282 K q [] (cutAt b3 3) (E3_3 x0 x1) (L3_3 x0 x1)) ∧ (∀ (v13 : Int) (x1 : List Int) (x0 : List Int) ds, R3_8 n v13 x1 x0 ds → ∀ K q, AtV Tryz.prog 3 (PostR kds3 oks3 ds [] [] q K) 282 K q [] (cutAt b3 8) (E3_8 v13 x1 x0) (L3_8 v13 x1 x0)) ∧ (∀ (x1 : List Int) ds, R3_23 n x1 ds → ∀ K q, AtV Tryz.prog 3 (PostR kds3 oks3 ds [] [] q K) 282 K q [] (cutAt b3 23) (E3_23 x1) (L3_23 x1)) ∧ (∀ (x1 : List Int) (x0 : List Int) (v13 : Int) ds, R3_10 n x1 x0 v13 ds → ∀ K q, AtV Tryz.prog 3 (PostR kds3 oks3 ds [] [] q K) 282 K q [] (cutAt b3 10) (E3_10 x1 x0 v13) (L3_10 x1 x0 v13)) ∧ (∀ (x1 : List Int) ds, R3_27 n x1 ds → ∀ K q, AtV Tryz.prog 3 (PostR kds3 oks3 ds [] [] q K) 282 K q [] (cutAt b3 27) (E3_27 x1) (L3_27 x1)) ∧ (∀ (v99 : Bool) (x1 : List Int) (x0 : List Int) (v13 : Int) ds, R3_13 n v99 x1 x0 v13 ds → ∀ K q, AtV Tryz.prog 3 (PostR kds3 oks3 ds [] [] q K) 282 K q [] (cutAt b3 13) (E3_13 v99 x1 x0 v13) (L3_13 v99 x1 x0 v13)) ∧ (∀ (v23 : Int) (x1 : List Int) ds, R3_28 n v23 x1 ds → ∀ K q, AtV Tryz.prog 3 (PostR kds3 oks3 ds [] [] q K) 282 K q [] (cutAt b3 28) (E3_28 v23 x1) (L3_28 v23 x1)) ∧ (∀ (x1 : List Int) (x0 : List Int) (v13 : Int) (v99 : Bool) ds, R3_16 n x1 x0 v13 v99 ds → ∀ K q, AtV Tryz.prog 3 (PostR kds3 oks3 ds [] [] q K) 282 K q [] (cutAt b3 16) (E3_16 x1 x0 v13 v99) (L3_16 x1 x0 v13 v99)) ∧ (∀ (x1 : List Int) (v23 : Int) ds, R3_30 n x1 v23 ds → ∀ K q, AtV Tryz.prog 3 (PostR kds3 oks3 ds [] [] q K) 282 K q [] (cutAt b3 30) (E3_30 x1 v23) (L3_30 x1 v23)) ∧ (∀ (v27 : Int) (x1 : List Int) ds, R3_35 n v27 x1 ds → ∀ K q, AtV Tryz.prog 3 (PostR kds3 oks3 ds [] [] q K) 282 K q [] (cutAt b3 35) (E3_35 v27 x1) (L3_35 v27 x1)) ∧ (∀ (v17 : Int) (x1 : List Int) (x0 : List Int) (v13 : Int) (v99 : Bool) ds, R3_17 n v17 x1 x0 v13 v99 ds → ∀ K q, AtV Tryz.prog 3 (PostR kds3 oks3 ds [] [] q K) 282 K q [] (cutAt b3 17) (E3_17 v17 x1 x0 v13 v99) (L3_17 v17 x1 x0 v13 v99)) ∧ (∀ (v247 : Bool) (x1 : List Int) (v23 : Int) ds, R3_29 n v247 x1 v23 ds → ∀ K q, AtV Tryz.prog 3 (PostR kds3 oks3 ds [] [] q K) 282 K q [] (cutAt b3 29) (E3_29 v247 x1 v23) (L3_29 v247 x1 v23)) ∧ (∀ (x1 : List Int) (v27 : Int) ds, R3_37 n x1 v27 ds → ∀ K q, AtV Tryz.prog 3 (PostR kds3 oks3 ds [] [] q K) 282 K q [] (cutAt b3 37) (E3_37 x1 v27) (L3_37 x1 v27)) ∧ (∀ (x1 : List Int) (x0 : List Int) (v13 : Int) (v17 : Int) (v99 : Bool) ds, R3_19 n x1 x0 v13 v17 v99 ds → ∀ K q, AtV Tryz.prog 3 (PostR kds3 oks3 ds [] [] q K) 282 K q [] (cutAt b3 19) (E3_19 x1 x0 v13 v17 v99) (L3_19 x1 x0 v13 v17 v99)) ∧ (∀ (x1 : List Int) (x0 : List Int) (v13 : Int) (v99 : Bool) ds, R3_9 n x1 x0 v13 v99 ds → ∀ K q, AtV Tryz.prog 3 (PostR kds3 oks3 ds [] [] q K) 282 K q [] (cutAt b3 9) (E3_9 x1 x0 v13 v99) (L3_9 x1 x0 v13 v99)) ∧ (∀ (x1 : List Int) (v27 : Int) ds, R3_36 n x1 v27 ds → ∀ K q, AtV Tryz.prog 3 (PostR kds3 oks3 ds [] [] q K) 282 K q [] (cutAt b3 36) (E3_36 x1 v27) (L3_36 x1 v27)) ∧ (∀ (x1 : List Int) (v27 : Int) ds, R3_38 n x1 v27 ds → ∀ K q, AtV Tryz.prog 3 (PostR kds3 oks3 ds [] [] q K) 282 K q [] (cutAt b3 38) (E3_38 x1 v27) (L3_38 x1 v27)) ∧ (∀ (x1 : List Int) (x0 : List Int) (v13 : Int) (v17 : Int) (v99 : Bool) ds, R3_18 n x1 x0 v13 v17 v99 ds → ∀ K q, AtV Tryz.prog 3 (PostR kds3 oks3 ds [] [] q K) 282 K q [] (cutAt b3 18) (E3_18 x1 x0 v13 v17 v99) (L3_18 x1 x0 v13 v17 v99)) ∧ (∀ (v28 : Bool) (v29 : Int) (x1 : List Int) (v27 : Int) ds, R3_40 n v28 v29 x1 v27 ds → ∀ K q, AtV Tryz.prog 3 (PostR kds3 oks3 ds [] [] q K) 282 K q [] (cutAt b3 40) (E3_40 v28 v29 x1 v27) (L3_40 v28 v29 x1 v27)) ∧ (∀ (x1 : List Int) (v27 : Int) (v28 : Bool) (v29 : Int) ds, R3_42 n x1 v27 v28 v29 ds → ∀ K q, AtV Tryz.prog 3 (PostR kds3 oks3 ds [] [] q K) 282 K q [] (cutAt b3 42) (E3_42 x1 v27 v28 v29) (L3_42 x1 v27 v28 v29)) := by
  intro n
  induction n with
  | zero => exact ⟨fun _ _ _ h => by simp only [R3] at h, fun _ _ _ h => by simp only [R3_3] at h, fun _ _ _ _ h => by simp only [R3_8] at h, fun _ _ h => by simp only [R3_23] at h, fun _ _ _ _ h => by simp only [R3_10] at h, fun _ _ h => by simp only [R3_27] at h, fun _ _ _ _ _ h => by simp only [R3_13] at h, fun _ _ _ h => by simp only [R3_28] at h, fun _ _ _ _ _ h => by simp only [R3_16] at h, fun _ _ _ h => by simp only [R3_30] at h, fun _ _ _ h => by simp only [R3_35] at h, fun _ _ _ _ _ _ h => by simp only [R3_17] at h, fun _ _ _ _ h => by simp only [R3_29] at h, fun _ _ _ h => by simp only [R3_37] at h, fun _ _ _ _ _ _ h => by simp only [R3_19] at h, fun _ _ _ _ _ h => by simp only [R3_9] at h, fun _ _ _ h => by simp only [R3_36] at h, fun _ _ _ h => by simp only [R3_38] at h, fun _ _ _ _ _ _ h => by simp only [R3_18] at h, fun _ _ _ _ _ h => by simp only [R3_40] at h, fun _ _ _ _ _ h => by simp only [R3_42] at h⟩
  | succ n ih =>
  obtain ⟨ih, ih3, ih8, ih23, ih10, ih27, ih13, ih28, ih16, ih30, ih35, ih17, ih29, ih37, ih19, ih9, ih36, ih38, ih18, ih40, ih42⟩ := ih
  refine ⟨?_, ?_, ?_, ?_, ?_, ?_, ?_, ?_, ?_, ?_, ?_, ?_, ?_, ?_, ?_, ?_, ?_, ?_, ?_, ?_, ?_⟩
  · intro x0 x1 ds h K q
    rw [R3] at h
    by_cases b0 : (g4_0 x0) = true
    · rw [if_pos b0] at h
      subst h
      exact AtV.ret Tryz.func3 tabOk ext3Ok mixed false [3, 23, 10, 9, 13, 16, 19, 18, 27, 30, 29, 37, 36, 38, 42] tys3 [true, true] (a1 trivial (a1 b0 (a1 (rfl : Bool.true = Bool.true) trivial))) (by kernel_rfl)
    · rw [if_neg b0] at h
      replace b0 := Bool.eq_false_iff.2 b0
      by_cases b1 : (g4_0 x1) = true
      · rw [if_pos b1] at h
        subst h
        exact AtV.ret Tryz.func3 tabOk ext3Ok mixed false [3, 23, 10, 9, 13, 16, 19, 18, 27, 30, 29, 37, 36, 38, 42] tys3 [false, true] (a1 trivial (a1 b0 (a1 trivial (a1 b1 trivial)))) (by kernel_rfl)
      · rw [if_neg b1] at h
        replace b1 := Bool.eq_false_iff.2 b1
        exact AtV.go tabOk ext3Ok mixed false [3, 23, 10, 9, 13, 16, 19, 18, 27, 30, 29, 37, 36, 38, 42] [] [0, 1] [] [false, false] (a1 trivial (a1 b0 (a1 trivial (a1 b1 trivial)))) (ih3 _ _ _ h K q) (by kernel_rfl)

  · intro x0 x1 ds h K q
    rw [R3_3] at h
    obtain ⟨s0, h⟩ := h
    obtain ⟨s1, h⟩ := h
    obtain ⟨s2, h⟩ := h
    by_cases b0 : (g6_1 (g5_0 x0) (g5_1 x0) (g5_2 x0) (g5_3 x0) == 0) = true
    · rw [if_pos b0] at h
      exact AtV.go tabOk ext3Ok mixed false [3, 23, 10, 9, 13, 16, 19, 18, 27, 30, 29, 37, 36, 38, 42] [] [1, 5, 6, 7, 8, 9, 11, 12, 13] [0, 1] [true] (a1 s0 (a1 s1 (a1 s2 (a1 b0 trivial)))) (ih8 _ _ _ _ h K q) (by kernel_rfl)
    · rw [if_neg b0] at h
      replace b0 := Bool.eq_false_iff.2 b0
      exact AtV.go tabOk ext3Ok mixed false [3, 23, 10, 9, 13, 16, 19, 18, 27, 30, 29, 37, 36, 38, 42] [] [1] [] [false] (a1 s0 (a1 s1 (a1 s2 (a1 b0 trivial)))) (ih23 _ _ h K q) (by kernel_rfl)

  · intro v13 x1 x0 ds h K q
    rw [R3_8] at h
    by_cases b0 : (Decidable.decide (v13 < (↑(List.length (g5_0 x0)) : Int))) = true
    · rw [if_pos b0] at h
      exact AtV.go tabOk ext3Ok mixed false [3, 23, 10, 9, 13, 16, 19, 18, 27, 30, 29, 37, 36, 38, 42] [] [1, 5, 6, 7, 8, 9, 11, 12, 13] [0, 1] [true] (a1 b0 trivial) (ih10 _ _ _ _ h K q) (by kernel_rfl)
    · rw [if_neg b0] at h
      replace b0 := Bool.eq_false_iff.2 b0
      by_cases b1 : (!(g7_1 (g5_0 x0) (g5_1 x0) (g5_2 x0) (g5_3 x0) == 0) == Decidable.decide ((↑(List.length (g6_0 (g5_0 x0) (g5_1 x0) (g5_2 x0) (g5_3 x0))) : Int) > 0)) = true
      · rw [if_pos b1] at h
        subst h
        exact AtV.ret Tryz.func3 tabOk ext3Ok mixed false [3, 23, 10, 9, 13, 16, 19, 18, 27, 30, 29, 37, 36, 38, 42] tys3 [false, true, true] (a1 b0 (a1 b1 (a1 (rfl : Bool.true = Bool.true) trivial))) (by kernel_rfl)
      · rw [if_neg b1] at h
        replace b1 := Bool.eq_false_iff.2 b1
        by_cases b2 : (g7_1 (g5_0 x0) (g5_1 x0) (g5_2 x0) (g5_3 x0) == 0) = true
        · rw [if_pos b2] at h
          by_cases b3 : (!g9_0 (g6_0 (g5_0 x0) (g5_1 x0) (g5_2 x0) (g5_3 x0)) (g7_0 (g5_0 x0) (g5_1 x0) (g5_2 x0) (g5_3 x0))) = true
          · rw [if_pos b3] at h
            subst h
            exact AtV.ret Tryz.func3 tabOk ext3Ok mixed false [3, 23, 10, 9, 13, 16, 19, 18, 27, 30, 29, 37, 36, 38, 42] tys3 [false, false, true, true] (a1 b0 (a1 b1 (a1 b2 (a1 trivial (a1 b3 trivial))))) (by kernel_rfl)
          · rw [if_neg b3] at h
            replace b3 := Bool.eq_false_iff.2 b3
            exact AtV.go tabOk ext3Ok mixed false [3, 23, 10, 9, 13, 16, 19, 18, 27, 30, 29, 37, 36, 38, 42] [] [1] [] [false, false, true, false] (a1 b0 (a1 b1 (a1 b2 (a1 trivial (a1 b3 trivial))))) (ih23 _ _ h K q) (by kernel_rfl)
        · rw [if_neg b2] at h
          replace b2 := Bool.eq_false_iff.2 b2
          exact AtV.go tabOk ext3Ok mixed false [3, 23, 10, 9, 13, 16, 19, 18, 27, 30, 29, 37, 36, 38, 42] [] [1] [] [false, false, false, false] (a1 b0 (a1 b1 (a1 b2 (a1 (rfl : Bool.false = Bool.false) trivial)))) (ih23 _ _ h K q) (by kernel_rfl)

  · intro x1 ds h K q
    rw [R3_23] at h
    obtain ⟨s0, h⟩ := h
    obtain ⟨s1, h⟩ := h
    by_cases b0 : (g12_1 (g11_0 x1) (g11_1 x1) (g11_2 x1) != 0) = true
    · rw [if_pos b0] at h
      subst h
      exact AtV.ret Tryz.func3 tabOk ext3Ok mixed false [3, 23, 10, 9, 13, 16, 19, 18, 27, 30, 29, 37, 36, 38, 42] tys3 [true] (a1 s0 (a1 s1 (a1 b0 trivial))) (by kernel_rfl)
    · rw [if_neg b0] at h
      replace b0 := Bool.eq_false_iff.2 b0
      exact AtV.go tabOk ext3Ok mixed false [3, 23, 10, 9, 13, 16, 19, 18, 27, 30, 29, 37, 36, 38, 42] [] [18, 19, 20, 21] [0, 1] [false] (a1 s0 (a1 s1 (a1 b0 trivial))) (ih27 _ _ h K q) (by kernel_rfl)

  · intro x1 x0 v13 ds h K q
    rw [R3_10] at h
    obtain ⟨s0, s1, h⟩ := h
    obtain ⟨s2, h⟩ := h
    obtain ⟨s3, s4, h⟩ := h
    by_cases b0 : (!g8_0 (g5_0 x0) (g5_1 x0) (List.getD (g5_0 x0) (Int.toNat v13) (ByteArray.empty, [], ())).1 (g5_2 x0) (g5_3 x0) == g9_0 (g6_0 (g5_0 x0) (g5_1 x0) (g5_2 x0) (g5_3 x0)) (List.getD (g5_0 x0) (Int.toNat v13) (ByteArray.empty, [], ())).1) = true
    · rw [if_pos b0] at h
      subst h
      exact AtV.ret Tryz.func3 tabOk ext3Ok mixed false [3, 23, 10, 9, 13, 16, 19, 18, 27, 30, 29, 37, 36, 38, 42] tys3 [true, true] (a1 s0 (a1 s1 (a1 s2 (a1 s3 (a1 s4 (a1 trivial (a1 b0 (a1 (rfl : Bool.true = Bool.true) trivial)))))))) (by kernel_rfl)
    · rw [if_neg b0] at h
      replace b0 := Bool.eq_false_iff.2 b0
      by_cases b1 : (g8_0 (g5_0 x0) (g5_1 x0) (List.getD (g5_0 x0) (Int.toNat v13) (ByteArray.empty, [], ())).1 (g5_2 x0) (g5_3 x0)) = true
      · rw [if_pos b1] at h
        obtain ⟨s5, s6, h⟩ := h
        obtain ⟨s7, h⟩ := h
        by_cases b2 : (!g8_0 (g5_0 x0) (g5_1 x0) (List.getD (g5_0 x0) (Int.toNat v13) (ByteArray.empty, [], ())).1 (g5_2 x0) 1) = true
        · rw [if_pos b2] at h
          subst h
          exact AtV.ret Tryz.func3 tabOk ext3Ok mixed false [3, 23, 10, 9, 13, 16, 19, 18, 27, 30, 29, 37, 36, 38, 42] tys3 [false, true, true] (a1 s0 (a1 s1 (a1 s2 (a1 s3 (a1 s4 (a1 trivial (a1 b0 (a1 b1 (a1 s5 (a1 s6 (a1 s7 (a1 b2 trivial)))))))))))) (by kernel_rfl)
        · rw [if_neg b2] at h
          replace b2 := Bool.eq_false_iff.2 b2
          exact AtV.go tabOk ext3Ok mixed false [3, 23, 10, 9, 13, 16, 19, 18, 27, 30, 29, 37, 36, 38, 42] [] [1, 5, 6, 7, 8, 9, 11, 12, 13, 14, 87, 88, 99] [0, 1] [false, true, false] (a1 s0 (a1 s1 (a1 s2 (a1 s3 (a1 s4 (a1 trivial (a1 b0 (a1 b1 (a1 s5 (a1 s6 (a1 s7 (a1 b2 trivial)))))))))))) (ih13 _ _ _ _ _ h K q) (by kernel_rfl)
      · rw [if_neg b1] at h
        replace b1 := Bool.eq_false_iff.2 b1
        exact AtV.go tabOk ext3Ok mixed false [3, 23, 10, 9, 13, 16, 19, 18, 27, 30, 29, 37, 36, 38, 42] [] [1, 5, 6, 7, 8, 9, 11, 12, 13, 14, 87, 88, 99] [0, 1] [false, false, false] (a1 s0 (a1 s1 (a1 s2 (a1 s3 (a1 s4 (a1 trivial (a1 b0 (a1 b1 (a1 (rfl : Bool.false = Bool.false) trivial))))))))) (ih13 _ _ _ _ _ h K q) (by kernel_rfl)

  · intro x1 ds h K q
    rw [R3_27] at h
    exact AtV.go tabOk ext3Ok mixed false [3, 23, 10, 9, 13, 16, 19, 18, 27, 30, 29, 37, 36, 38, 42] [] [18, 19, 20, 21, 23] [0, 1] [] trivial (ih28 _ _ _ h K q) (by kernel_rfl)

  · intro v99 x1 x0 v13 ds h K q
    rw [R3_13] at h
    obtain ⟨s0, s1, h⟩ := h
    obtain ⟨s2, h⟩ := h
    by_cases b0 : (g10_1 (g5_0 x0) (List.getD (g5_0 x0) (Int.toNat v13) (ByteArray.empty, [], ())).1 != 0) = true
    · rw [if_pos b0] at h
      subst h
      exact AtV.ret Tryz.func3 tabOk ext3Ok mixed false [3, 23, 10, 9, 13, 16, 19, 18, 27, 30, 29, 37, 36, 38, 42] tys3 [true, true] (a1 s0 (a1 s1 (a1 s2 (a1 b0 (a1 (rfl : Bool.true = Bool.true) trivial))))) (by kernel_rfl)
    · rw [if_neg b0] at h
      replace b0 := Bool.eq_false_iff.2 b0
      obtain ⟨s3, s4, h⟩ := h
      by_cases b1 : (g9_0 (g10_0 (g5_0 x0) (List.getD (g5_0 x0) (Int.toNat v13) (ByteArray.empty, [], ())).1) (List.getD (g5_0 x0) (Int.toNat v13) (ByteArray.empty, [], ())).1) = true
      · rw [if_pos b1] at h
        subst h
        exact AtV.ret Tryz.func3 tabOk ext3Ok mixed false [3, 23, 10, 9, 13, 16, 19, 18, 27, 30, 29, 37, 36, 38, 42] tys3 [false, true] (a1 s0 (a1 s1 (a1 s2 (a1 b0 (a1 s3 (a1 s4 (a1 trivial (a1 b1 trivial)))))))) (by kernel_rfl)
      · rw [if_neg b1] at h
        replace b1 := Bool.eq_false_iff.2 b1
        exact AtV.go tabOk ext3Ok mixed false [3, 23, 10, 9, 13, 16, 19, 18, 27, 30, 29, 37, 36, 38, 42] [] [1, 5, 6, 7, 8, 9, 11, 12, 13, 14, 15, 87, 88, 99, 114, 115, 116, 117, 118, 119, 120] [0, 1, 2] [false, false] (a1 s0 (a1 s1 (a1 s2 (a1 b0 (a1 s3 (a1 s4 (a1 trivial (a1 b1 trivial)))))))) (ih16 _ _ _ _ _ h K q) (by kernel_rfl)

  · intro v23 x1 ds h K q
    rw [R3_28] at h
    by_cases b0 : (Decidable.decide (v23 < (↑(List.length (g12_0 (g11_0 x1) (g11_1 x1) (g11_2 x1))) : Int))) = true
    · rw [if_pos b0] at h
      exact AtV.go tabOk ext3Ok mixed false [3, 23, 10, 9, 13, 16, 19, 18, 27, 30, 29, 37, 36, 38, 42] [] [18, 19, 20, 21, 23] [0, 1] [true] (a1 b0 trivial) (ih30 _ _ _ h K q) (by kernel_rfl)
    · rw [if_neg b0] at h
      replace b0 := Bool.eq_false_iff.2 b0
      exact AtV.go tabOk ext3Ok mixed false [3, 23, 10, 9, 13, 16, 19, 18, 27, 30, 29, 37, 36, 38, 42] [] [19, 20, 21, 27] [0, 1] [false] (a1 b0 trivial) (ih35 _ _ _ h K q) (by kernel_rfl)

  · intro x1 x0 v13 v99 ds h K q
    rw [R3_16] at h
    exact AtV.go tabOk ext3Ok mixed false [3, 23, 10, 9, 13, 16, 19, 18, 27, 30, 29, 37, 36, 38, 42] [] [1, 5, 6, 7, 8, 9, 11, 12, 13, 14, 15, 17, 87, 88, 99, 114, 115, 116, 117, 118, 119, 120] [0, 1, 2] [] trivial (ih17 _ _ _ _ _ _ h K q) (by kernel_rfl)

  · intro x1 v23 ds h K q
    rw [R3_30] at h
    obtain ⟨s0, s1, h⟩ := h
    obtain ⟨s2, h⟩ := h
    obtain ⟨s3, h⟩ := h
    by_cases b0 : (!ByteArray.toList (List.getD (g12_0 (g11_0 x1) (g11_1 x1) (g11_2 x1)) (Int.toNat v23) (ByteArray.empty, ByteArray.empty, 0, ())).1 == ByteArray.toList (g11_2 x1)) = true
    · rw [if_pos b0] at h
      subst h
      exact AtV.ret Tryz.func3 tabOk ext3Ok mixed false [3, 23, 10, 9, 13, 16, 19, 18, 27, 30, 29, 37, 36, 38, 42] tys3 [true, true, true, true, true] (a1 s0 (a1 s1 (a1 s2 (a1 s3 (a1 b0 (a1 (rfl : Bool.true = Bool.true) (a1 (rfl : Bool.true = Bool.true) (a1 (rfl : Bool.true = Bool.true) (a1 (rfl : Bool.true = Bool.true) trivial))))))))) (by kernel_rfl)
    · rw [if_neg b0] at h
      replace b0 := Bool.eq_false_iff.2 b0
      obtain ⟨s4, h⟩ := h
      by_cases b1 : (!g8_0 (g11_0 x1) (g11_1 x1) (g11_2 x1) (List.getD (g12_0 (g11_0 x1) (g11_1 x1) (g11_2 x1)) (Int.toNat v23) (ByteArray.empty, ByteArray.empty, 0, ())).2.1 (List.getD (g12_0 (g11_0 x1) (g11_1 x1) (g11_2 x1)) (Int.toNat v23) (ByteArray.empty, ByteArray.empty, 0, ())).2.2.1) = true
      · rw [if_pos b1] at h
        subst h
        exact AtV.ret Tryz.func3 tabOk ext3Ok mixed false [3, 23, 10, 9, 13, 16, 19, 18, 27, 30, 29, 37, 36, 38, 42] tys3 [false, true, true, true, true] (a1 s0 (a1 s1 (a1 s2 (a1 s3 (a1 b0 (a1 s4 (a1 b1 (a1 (rfl : Bool.true = Bool.true) (a1 (rfl : Bool.true = Bool.true) (a1 (rfl : Bool.true = Bool.true) trivial)))))))))) (by kernel_rfl)
      · rw [if_neg b1] at h
        replace b1 := Bool.eq_false_iff.2 b1
        by_cases b2 : (!g13_1 (g14_0 (List.getD (g12_0 (g11_0 x1) (g11_1 x1) (g11_2 x1)) (Int.toNat v23) (ByteArray.empty, ByteArray.empty, 0, ())))) = true
        · rw [if_pos b2] at h
          subst h
          exact AtV.ret Tryz.func3 tabOk ext3Ok mixed false [3, 23, 10, 9, 13, 16, 19, 18, 27, 30, 29, 37, 36, 38, 42] tys3 [false, false, true, true, true] (a1 s0 (a1 s1 (a1 s2 (a1 s3 (a1 b0 (a1 s4 (a1 b1 (a1 b2 (a1 (rfl : Bool.true = Bool.true) (a1 (rfl : Bool.true = Bool.true) trivial)))))))))) (by kernel_rfl)
        · rw [if_neg b2] at h
          replace b2 := Bool.eq_false_iff.2 b2
          by_cases b3 : (!eqD (Ty.cons Ty.str (Ty.cons Ty.str (Ty.cons (Ty.int IntKind.i64) Ty.unit))) (g13_0 (g14_0 (List.getD (g12_0 (g11_0 x1) (g11_1 x1) (g11_2 x1)) (Int.toNat v23) (ByteArray.empty, ByteArray.empty, 0, ())))) (List.getD (g12_0 (g11_0 x1) (g11_1 x1) (g11_2 x1)) (Int.toNat v23) (ByteArray.empty, ByteArray.empty, 0, ()))) = true
          · rw [if_pos b3] at h
            subst h
            exact AtV.ret Tryz.func3 tabOk ext3Ok mixed false [3, 23, 10, 9, 13, 16, 19, 18, 27, 30, 29, 37, 36, 38, 42] tys3 [false, false, false, true, true] (a1 s0 (a1 s1 (a1 s2 (a1 s3 (a1 b0 (a1 s4 (a1 b1 (a1 b2 (a1 b3 (a1 (rfl : Bool.true = Bool.true) trivial)))))))))) (by kernel_rfl)
          · rw [if_neg b3] at h
            replace b3 := Bool.eq_false_iff.2 b3
            by_cases b4 : (Decidable.decide (v23 > 0)) = true
            · rw [if_pos b4] at h
              obtain ⟨s5, h⟩ := h
              obtain ⟨s6, s7, h⟩ := h
              by_cases b5 : (!(Op.bytesLess (ByteArray.toList (List.getD (g12_0 (g11_0 x1) (g11_1 x1) (g11_2 x1)) (Int.toNat (v23 - 1)) (ByteArray.empty, ByteArray.empty, 0, ())).2.1) (ByteArray.toList (List.getD (g12_0 (g11_0 x1) (g11_1 x1) (g11_2 x1)) (Int.toNat v23) (ByteArray.empty, ByteArray.empty, 0, ())).2.1) || ByteArray.toList (List.getD (g12_0 (g11_0 x1) (g11_1 x1) (g11_2 x1)) (Int.toNat (v23 - 1)) (ByteArray.empty, ByteArray.empty, 0, ())).2.1 == ByteArray.toList (List.getD (g12_0 (g11_0 x1) (g11_1 x1) (g11_2 x1)) (Int.toNat v23) (ByteArray.empty, ByteArray.empty, 0, ())).2.1)) = true
              · rw [if_pos b5] at h
                subst h
                exact AtV.ret Tryz.func3 tabOk ext3Ok mixed false [3, 23, 10, 9, 13, 16, 19, 18, 27, 30, 29, 37, 36, 38, 42] tys3 [false, false, false, false, true, true, true] (a1 s0 (a1 s1 (a1 s2 (a1 s3 (a1 b0 (a1 s4 (a1 b1 (a1 b2 (a1 b3 (a1 b4 (a1 s5 (a1 s6 (a1 s7 (a1 b5 (a1 (rfl : Bool.true = Bool.true) trivial))))))))))))))) (by kernel_rfl)
              · rw [if_neg b5] at h
                replace b5 := Bool.eq_false_iff.2 b5
                obtain ⟨s8, h⟩ := h
                obtain ⟨s9, s10, h⟩ := h
                by_cases b6 : (ByteArray.toList (List.getD (g12_0 (g11_0 x1) (g11_1 x1) (g11_2 x1)) (Int.toNat (v23 - 1)) (ByteArray.empty, ByteArray.empty, 0, ())).2.1 == ByteArray.toList (List.getD (g12_0 (g11_0 x1) (g11_1 x1) (g11_2 x1)) (Int.toNat v23) (ByteArray.empty, ByteArray.empty, 0, ())).2.1) = true
                · rw [if_pos b6] at h
                  obtain ⟨s11, h⟩ := h
                  obtain ⟨s12, s13, h⟩ := h
                  by_cases b7 : (Decidable.decide ((List.getD (g12_0 (g11_0 x1) (g11_1 x1) (g11_2 x1)) (Int.toNat (v23 - 1)) (ByteArray.empty, ByteArray.empty, 0, ())).2.2.1 ≥ (List.getD (g12_0 (g11_0 x1) (g11_1 x1) (g11_2 x1)) (Int.toNat v23) (ByteArray.empty, ByteArray.empty, 0, ())).2.2.1)) = true
                  · rw [if_pos b7] at h
                    subst h
                    exact AtV.ret Tryz.func3 tabOk ext3Ok mixed false [3, 23, 10, 9, 13, 16, 19, 18, 27, 30, 29, 37, 36, 38, 42] tys3 [false, false, false, false, true, false, true, true] (a1 s0 (a1 s1 (a1 s2 (a1 s3 (a1 b0 (a1 s4 (a1 b1 (a1 b2 (a1 b3 (a1 b4 (a1 s5 (a1 s6 (a1 s7 (a1 b5 (a1 s8 (a1 s9 (a1 s10 (a1 b6 (a1 s11 (a1 s12 (a1 s13 (a1 b7 trivial)))))))))))))))))))))) (by kernel_rfl)
                  · rw [if_neg b7] at h
                    replace b7 := Bool.eq_false_iff.2 b7
                    exact AtV.go tabOk ext3Ok mixed false [3, 23, 10, 9, 13, 16, 19, 18, 27, 30, 29, 37, 36, 38, 42] [] [18, 19, 20, 21, 23, 193, 194, 195, 196, 197, 198, 199, 200, 201, 204, 205, 208, 209, 210, 213, 214, 215, 247] [0, 1, 2] [false, false, false, false, true, false, true, false] (a1 s0 (a1 s1 (a1 s2 (a1 s3 (a1 b0 (a1 s4 (a1 b1 (a1 b2 (a1 b3 (a1 b4 (a1 s5 (a1 s6 (a1 s7 (a1 b5 (a1 s8 (a1 s9 (a1 s10 (a1 b6 (a1 s11 (a1 s12 (a1 s13 (a1 b7 trivial)))))))))))))))))))))) (ih29 _ _ _ _ h K q) (by kernel_rfl)
                · rw [if_neg b6] at h
                  replace b6 := Bool.eq_false_iff.2 b6
                  exact AtV.go tabOk ext3Ok mixed false [3, 23, 10, 9, 13, 16, 19, 18, 27, 30, 29, 37, 36, 38, 42] [] [18, 19, 20, 21, 23, 193, 194, 195, 196, 197, 198, 199, 200, 201, 204, 205, 208, 209, 210, 213, 214, 215, 247] [0, 1, 2] [false, false, false, false, true, false, false, false] (a1 s0 (a1 s1 (a1 s2 (a1 s3 (a1 b0 (a1 s4 (a1 b1 (a1 b2 (a1 b3 (a1 b4 (a1 s5 (a1 s6 (a1 s7 (a1 b5 (a1 s8 (a1 s9 (a1 s10 (a1 b6 (a1 (rfl : Bool.false = Bool.false) trivial))))))))))))))))))) (ih29 _ _ _ _ h K q) (by kernel_rfl)
            · rw [if_neg b4] at h
              replace b4 := Bool.eq_false_iff.2 b4
              exact AtV.go tabOk ext3Ok mixed false [3, 23, 10, 9, 13, 16, 19, 18, 27, 30, 29, 37, 36, 38, 42] [] [18, 19, 20, 21, 23, 193, 194, 195, 196, 197, 198, 199, 200, 201, 204, 205, 208, 209, 210, 213, 214, 215, 247] [0, 1, 2] [false, false, false, false, false, false] (a1 s0 (a1 s1 (a1 s2 (a1 s3 (a1 b0 (a1 s4 (a1 b1 (a1 b2 (a1 b3 (a1 b4 (a1 (rfl : Bool.false = Bool.false) trivial))))))))))) (ih29 _ _ _ _ h K q) (by kernel_rfl)

  · intro v27 x1 ds h K q
    rw [R3_35] at h
    by_cases b0 : (Decidable.decide (v27 < (↑(List.length (g11_1 x1)) : Int))) = true
    · rw [if_pos b0] at h
      exact AtV.go tabOk ext3Ok mixed false [3, 23, 10, 9, 13, 16, 19, 18, 27, 30, 29, 37, 36, 38, 42] [] [19, 20, 21, 27] [0, 1] [true] (a1 b0 trivial) (ih37 _ _ _ h K q) (by kernel_rfl)
    · rw [if_neg b0] at h
      replace b0 := Bool.eq_false_iff.2 b0
      subst h
      exact AtV.ret Tryz.func3 tabOk ext3Ok mixed false [3, 23, 10, 9, 13, 16, 19, 18, 27, 30, 29, 37, 36, 38, 42] tys3 [false] (a1 b0 trivial) (by kernel_rfl)

  · intro v17 x1 x0 v13 v99 ds h K q
    rw [R3_17] at h
    by_cases b0 : (Decidable.decide (v17 < (↑(List.length (g10_0 (g5_0 x0) (List.getD (g5_0 x0) (Int.toNat v13) (ByteArray.empty, [], ())).1)) : Int))) = true
    · rw [if_pos b0] at h
      exact AtV.go tabOk ext3Ok mixed false [3, 23, 10, 9, 13, 16, 19, 18, 27, 30, 29, 37, 36, 38, 42] [] [1, 5, 6, 7, 8, 9, 11, 12, 13, 14, 15, 17, 87, 88, 99, 114, 115, 116, 117, 118, 119, 120] [0, 1, 2] [true] (a1 b0 trivial) (ih19 _ _ _ _ _ _ h K q) (by kernel_rfl)
    · rw [if_neg b0] at h
      replace b0 := Bool.eq_false_iff.2 b0
      exact AtV.go tabOk ext3Ok mixed false [3, 23, 10, 9, 13, 16, 19, 18, 27, 30, 29, 37, 36, 38, 42] [] [1, 5, 6, 7, 8, 9, 11, 12, 13, 87, 88, 99, 114, 115, 116, 117, 118, 119, 120] [0, 1, 2] [false] (a1 b0 trivial) (ih9 _ _ _ _ _ h K q) (by kernel_rfl)

  · intro v247 x1 v23 ds h K q
    rw [R3_29] at h
    obtain ⟨s0, h⟩ := h
    exact AtV.go tabOk ext3Ok mixed false [3, 23, 10, 9, 13, 16, 19, 18, 27, 30, 29, 37, 36, 38, 42] [] [18, 19, 20, 21, 23] [0, 1] [] (a1 s0 trivial) (ih28 _ _ _ h K q) (by kernel_rfl)

  · intro x1 v27 ds h K q
    rw [R3_37] at h
    obtain ⟨s0, s1, h⟩ := h
    by_cases b0 : (!ByteArray.toList (List.getD (g11_1 x1) (Int.toNat v27) (ByteArray.empty, ByteArray.empty, 0, ())).1 == ByteArray.toList (g11_2 x1)) = true
    · rw [if_pos b0] at h
      exact AtV.go tabOk ext3Ok mixed false [3, 23, 10, 9, 13, 16, 19, 18, 27, 30, 29, 37, 36, 38, 42] [] [19, 20, 21, 27] [0, 1] [true] (a1 s0 (a1 s1 (a1 b0 trivial))) (ih36 _ _ _ h K q) (by kernel_rfl)
    · rw [if_neg b0] at h
      replace b0 := Bool.eq_false_iff.2 b0
      exact AtV.go tabOk ext3Ok mixed false [3, 23, 10, 9, 13, 16, 19, 18, 27, 30, 29, 37, 36, 38, 42] [] [19, 20, 21, 27] [0, 1] [false] (a1 s0 (a1 s1 (a1 b0 trivial))) (ih38 _ _ _ h K q) (by kernel_rfl)

  · intro x1 x0 v13 v17 v99 ds h K q
    rw [R3_19] at h
    obtain ⟨s0, s1, h⟩ := h
    by_cases b0 : (g9_0 (g6_0 (g5_0 x0) (g5_1 x0) (g5_2 x0) (g5_3 x0)) (List.getD (g10_0 (g5_0 x0) (List.getD (g5_0 x0) (Int.toNat v13) (ByteArray.empty, [], ())).1) (Int.toNat v17) ByteArray.empty)) = true
    · rw [if_pos b0] at h
      by_cases b1 : (!g8_0 (g5_0 x0) (g5_1 x0) (List.getD (g5_0 x0) (Int.toNat v13) (ByteArray.empty, [], ())).1 (g5_2 x0) (g5_3 x0)) = true
      · rw [if_pos b1] at h
        subst h
        exact AtV.ret Tryz.func3 tabOk ext3Ok mixed false [3, 23, 10, 9, 13, 16, 19, 18, 27, 30, 29, 37, 36, 38, 42] tys3 [true, true] (a1 s0 (a1 s1 (a1 trivial (a1 b0 (a1 b1 trivial))))) (by kernel_rfl)
      · rw [if_neg b1] at h
        replace b1 := Bool.eq_false_iff.2 b1
        exact AtV.go tabOk ext3Ok mixed false [3, 23, 10, 9, 13, 16, 19, 18, 27, 30, 29, 37, 36, 38, 42] [] [1, 5, 6, 7, 8, 9, 11, 12, 13, 14, 15, 17, 87, 88, 99, 114, 115, 116, 117, 118, 119, 120] [0, 1, 2] [true, false] (a1 s0 (a1 s1 (a1 trivial (a1 b0 (a1 b1 trivial))))) (ih18 _ _ _ _ _ _ h K q) (by kernel_rfl)
    · rw [if_neg b0] at h
      replace b0 := Bool.eq_false_iff.2 b0
      exact AtV.go tabOk ext3Ok mixed false [3, 23, 10, 9, 13, 16, 19, 18, 27, 30, 29, 37, 36, 38, 42] [] [1, 5, 6, 7, 8, 9, 11, 12, 13, 14, 15, 17, 87, 88, 99, 114, 115, 116, 117, 118, 119, 120] [0, 1, 2] [false, false] (a1 s0 (a1 s1 (a1 trivial (a1 b0 (a1 (rfl : Bool.false = Bool.false) trivial))))) (ih18 _ _ _ _ _ _ h K q) (by kernel_rfl)

  · intro x1 x0 v13 v99 ds h K q
    rw [R3_9] at h
    obtain ⟨s0, h⟩ := h
    exact AtV.go tabOk ext3Ok mixed false [3, 23, 10, 9, 13, 16, 19, 18, 27, 30, 29, 37, 36, 38, 42] [] [1, 5, 6, 7, 8, 9, 11, 12, 13] [0, 1] [] (a1 s0 trivial) (ih8 _ _ _ _ h K q) (by kernel_rfl)

  · intro x1 v27 ds h K q
    rw [R3_36] at h
    obtain ⟨s0, h⟩ := h
    exact AtV.go tabOk ext3Ok mixed false [3, 23, 10, 9, 13, 16, 19, 18, 27, 30, 29, 37, 36, 38, 42] [] [19, 20, 21, 27] [0, 1] [] (a1 s0 trivial) (ih35 _ _ _ h K q) (by kernel_rfl)

  · intro x1 v27 ds h K q
    rw [R3_38] at h
    exact AtV.go tabOk ext3Ok mixed false [3, 23, 10, 9, 13, 16, 19, 18, 27, 30, 29, 37, 36, 38, 42] [] [19, 20, 21, 27, 28, 29] [0, 1] [] trivial (ih40 _ _ _ _ _ h K q) (by kernel_rfl)

  · intro x1 x0 v13 v17 v99 ds h K q
    rw [R3_18] at h
    obtain ⟨s0, h⟩ := h
    exact AtV.go tabOk ext3Ok mixed false [3, 23, 10, 9, 13, 16, 19, 18, 27, 30, 29, 37, 36, 38, 42] [] [1, 5, 6, 7, 8, 9, 11, 12, 13, 14, 15, 17, 87, 88, 99, 114, 115, 116, 117, 118, 119, 120] [0, 1, 2] [] (a1 s0 trivial) (ih17 _ _ _ _ _ _ h K q) (by kernel_rfl)

  · intro v28 v29 x1 v27 ds h K q
    rw [R3_40] at h
    by_cases b0 : (Decidable.decide (v29 < (↑(List.length (g12_0 (g11_0 x1) (g11_1 x1) (g11_2 x1))) : Int))) = true
    · rw [if_pos b0] at h
      exact AtV.go tabOk ext3Ok mixed false [3, 23, 10, 9, 13, 16, 19, 18, 27, 30, 29, 37, 36, 38, 42] [] [19, 20, 21, 27, 28, 29] [0, 1] [true] (a1 b0 trivial) (ih42 _ _ _ _ _ h K q) (by kernel_rfl)
    · rw [if_neg b0] at h
      replace b0 := Bool.eq_false_iff.2 b0
      by_cases b1 : (!v28) = true
      · rw [if_pos b1] at h
        subst h
        exact AtV.ret Tryz.func3 tabOk ext3Ok mixed false [3, 23, 10, 9, 13, 16, 19, 18, 27, 30, 29, 37, 36, 38, 42] tys3 [false, true] (a1 b0 (a1 b1 trivial)) (by kernel_rfl)
      · rw [if_neg b1] at h
        replace b1 := Bool.eq_false_iff.2 b1
        exact AtV.go tabOk ext3Ok mixed false [3, 23, 10, 9, 13, 16, 19, 18, 27, 30, 29, 37, 36, 38, 42] [] [19, 20, 21, 27] [0, 1] [false, false] (a1 b0 (a1 b1 trivial)) (ih36 _ _ _ h K q) (by kernel_rfl)

  · intro x1 v27 v28 v29 ds h K q
    rw [R3_42] at h
    by_cases b0 : (v28) = true
    · rw [if_pos b0] at h
      obtain ⟨s0, h⟩ := h
      exact AtV.go tabOk ext3Ok mixed false [3, 23, 10, 9, 13, 16, 19, 18, 27, 30, 29, 37, 36, 38, 42] [] [19, 20, 21, 27, 28, 29] [0, 1] [true] (a1 b0 (a1 s0 trivial)) (ih40 _ _ _ _ _ h K q) (by kernel_rfl)
    · rw [if_neg b0] at h
      replace b0 := Bool.eq_false_iff.2 b0
      obtain ⟨s0, s1, h⟩ := h
      obtain ⟨s2, s3, h⟩ := h
      obtain ⟨s4, h⟩ := h
      exact AtV.go tabOk ext3Ok mixed false [3, 23, 10, 9, 13, 16, 19, 18, 27, 30, 29, 37, 36, 38, 42] [] [19, 20, 21, 27, 28, 29] [0, 1] [false] (a1 b0 (a1 s0 (a1 s1 (a1 s2 (a1 s3 (a1 s4 trivial)))))) (ih40 _ _ _ _ _ h K q) (by kernel_rfl)



def g3_0 (x0 x1 : List Int) : Bool := true
def P3 (x0 x1 : List Int) : Prop := True
abbrev T3 : List Dyn := [⟨.bool, true⟩]

theorem draw3 {x : List Int} (hw : Wf (.sl (.int .u8)) x) : P16 (g15_0 x) ∧ SrcOk 2000 (u16_0 (g15_0 x)) ∧ (g16_0 (g15_0 x)).length ≤ 13 := by
  have p : P16 (g15_0 x) := show SrcOk 700000000 (x, 0, 0, ()) from (src_start hw).up (by decide)
  have h2 := (q16 _ p).1
  refine ⟨p, h2.up (by show (0 : Int) + 2000 ≤ 2000; decide), ?_⟩
  exact (q32 (g15_0 x) (show SrcOk 800000000 (x, 0, 0, ()) from (src_start hw).up (by decide))).2.1


theorem found3 (x1 : List Int) (v27 : Int) (m : Nat) (hr : R3_36 m x1 v27 T3) (j : Nat) (hv : 0 ≤ v27 ∧ v27 < ((g11_1 x1).length : Int)) (hl : (g12_0 (g11_0 x1) (g11_1 x1) (g11_2 x1)).length ≤ 1000000)
    (hj : j < (g12_0 (g11_0 x1) (g11_1 x1) (g11_2 x1)).length) (he : eqD (.cons .str (.cons .str (.cons (.int .i64) .unit))) (List.getD (g12_0 (g11_0 x1) (g11_1 x1) (g11_2 x1)) j (ByteArray.empty, ByteArray.empty, 0, ())) (List.getD (g11_1 x1) v27.toNat (ByteArray.empty, ByteArray.empty, 0, ())) = true) :
    ∀ (k i : Nat) (b : Bool), i + k = (g12_0 (g11_0 x1) (g11_1 x1) (g11_2 x1)).length → (j < i → b = true) → R3_40 (m + 2 * k + 1) b (i : Int) x1 v27 T3 := by
  intro k
  induction k with
  | zero =>
    intro i b hi hb
    have hb := hb (by omega)
    subst hb
    rw [Nat.mul_zero, Nat.add_zero, R3_40, if_neg (by simp only [decide_eq_true_eq]; omega), if_neg (by decide)]
    exact hr
  | succ k ih =>
    intro i b hi hb
    have e3 : (i : Int) + 1 = ((i + 1 : Nat) : Int) := by omega
    rw [show m + 2 * (k + 1) + 1 = m + 2 * k + 1 + 1 + 1 by omega, R3_40, if_pos (by simp only [decide_eq_true_eq]; omega), R3_42]
    cases b with
    | true =>
      rw [if_pos rfl, e3]
      exact ⟨by rw [i64_iff]; omega, ih (i + 1) true (by omega) (fun _ => rfl)⟩
    | false =>
      rw [if_neg (by decide), e3]
      simp only [Int.toNat_natCast]
      refine ⟨by omega, by omega, hv.1, hv.2, by rw [i64_iff]; omega, ih (i + 1) _ (by omega) (fun h => ?_)⟩
      by_cases hij : j = i
      · subst hij
        exact he
      · exact absurd (hb (by omega)) (by decide)

theorem eqd3 (a b : ByteArray × ByteArray × Int × Unit) : eqD (.cons .str (.cons .str (.cons (.int .i64) .unit))) a b = true ↔ a = b := by
  obtain ⟨a1, a2, a3, u⟩ := a
  obtain ⟨b1, b2, b3, v⟩ := b
  show ((ByteArray.toList a1 == ByteArray.toList b1) && ((ByteArray.toList a2 == ByteArray.toList b2) && ((a3 == b3) && true))) = true ↔ _
  rw [Bool.and_eq_true, Bool.and_eq_true, Bool.and_true, bytes_eq, bytes_eq, beq_iff_eq]
  constructor
  · rintro ⟨rfl, rfl, rfl⟩; rfl
  · intro h
    simp only [Prod.mk.injEq, and_true] at h
    exact h

theorem second3 (x1 : List Int) (w1 : Wf (.sl (.int .u8)) x1) : ∃ n, R3_23 n x1 T3 := by
  obtain ⟨d1, d2, d3⟩ := draw3 w1
  obtain ⟨t1, _, _⟩ := text_ok d2 [ByteArray.mk #[99, 104, 105, 101, 102], ByteArray.mk #[100, 114, 105, 118, 101, 114], ByteArray.mk #[103, 117, 97, 114, 100], ByteArray.mk #[112, 117, 112, 105, 108], ByteArray.mk #[119, 97, 114, 100, 101, 110], ByteArray.mk #[122, 122]] (by decide) (by decide)
  have p11 : P11 x1 := ⟨d1, ⟨t1, trivial⟩, trivial⟩
  have hl : (g11_0 x1).length ≤ 1048576 := Nat.le_trans d3 (by decide)
  have p12 : P12 (g11_0 x1) (g11_1 x1) (g11_2 x1) := by
    refine ⟨hl, ?_⟩
    split
    · trivial
    · rename_i c
      obtain ⟨h1, h2⟩ := (named_zero _ _ _).1 (show (g25_0 (g19_0 (g11_0 x1) (g11_1 x1)) (g11_0 x1) (g11_2 x1) == 0) = true by simpa using c)
      exact ⟨rights_pre h1 h2, trivial⟩
  by_cases c : (g25_0 (g19_0 (g11_0 x1) (g11_1 x1)) (g11_0 x1) (g11_2 x1) != 0) = true
  · have g1 : (g12_1 (g11_0 x1) (g11_1 x1) (g11_2 x1) != 0) = true := by
      unfold g12_1
      rw [if_pos c]
      exact c
    have g0 : g12_0 (g11_0 x1) (g11_1 x1) (g11_2 x1) = [] := by
      unfold g12_0
      rw [if_pos c]
    refine ⟨1, ?_⟩
    rw [R3_23, if_pos g1, g0]
    exact ⟨p11, p12, rfl⟩
  · have g1 : ¬ (g12_1 (g11_0 x1) (g11_1 x1) (g11_2 x1) != 0) = true := by
      unfold g12_1
      rw [if_neg c]
      decide
    have g0 : g12_0 (g11_0 x1) (g11_1 x1) (g11_2 x1) = g24_0 (g11_0 x1) (g11_1 x1) (g11_2 x1) := by
      unfold g12_0
      rw [if_neg c]
    obtain ⟨hv, hn⟩ := (named_zero _ _ _).1 (show (g25_0 (g19_0 (g11_0 x1) (g11_1 x1)) (g11_0 x1) (g11_2 x1) == 0) = true by simpa using c)
    obtain ⟨v1, v2, v3⟩ := grants_law hv
    have hname := role_name v1 hn
    have hmem := rights_mem (g11_0 x1) (g11_1 x1) (g11_2 x1)
    have hord := rights_order (g11_0 x1) (g11_1 x1) (g11_2 x1)
    have hlen : (g12_0 (g11_0 x1) (g11_1 x1) (g11_2 x1)).length ≤ 1000000 := by
      rw [g0]
      have f : ∀ (l : List ByteArray), (l.flatMap (of24 (g11_0 x1) (g11_1 x1) (g11_2 x1))).length ≤ 3 * l.length := fun l => by
        induction l with
        | nil => simp
        | cons o l ih =>
          rw [List.flatMap_cons, List.length_append, List.length_cons]
          have h1 := oneL24 (g11_0 x1) (g11_1 x1) (g11_2 x1) o 1
          have h2 := oneL24 (g11_0 x1) (g11_1 x1) (g11_2 x1) o 2
          have h3 := oneL24 (g11_0 x1) (g11_1 x1) (g11_2 x1) o 3
          have : (of24 (g11_0 x1) (g11_1 x1) (g11_2 x1) o).length ≤ 3 := by
            unfold of24
            rw [List.length_append, List.length_append]
            omega
          omega
      have := f (ob24 (g11_1 x1))
      have := obl24 (g11_1 x1)
      show (List.flatMap _ _).length ≤ _
      omega
    have own : ∀ (k i : Nat), i + k = (g11_1 x1).length → ∃ n, R3_35 n (i : Int) x1 T3 := by
      intro k
      induction k with
      | zero =>
        intro i hi
        refine ⟨1, ?_⟩
        rw [R3_35, if_neg (by simp only [decide_eq_true_eq]; omega)]
      | succ k ih =>
        intro i hi
        obtain ⟨n, hn⟩ := ih (i + 1) (by omega)
        have e3 : (i : Int) + 1 = ((i + 1 : Nat) : Int) := by omega
        have h36 : R3_36 (n + 1) x1 (i : Int) T3 := by
          rw [R3_36, e3]
          exact ⟨by rw [i64_iff]; omega, hn⟩
        by_cases hb : (!ByteArray.toList (List.getD (g11_1 x1) i (ByteArray.empty, ByteArray.empty, 0, ())).1 == ByteArray.toList (g11_2 x1)) = true
        · refine ⟨n + 1 + 1 + 1, ?_⟩
          rw [R3_35, if_pos (by simp only [decide_eq_true_eq]; omega), R3_37]
          simp only [Int.toNat_natCast]
          rw [if_pos hb]
          exact ⟨by omega, by omega, h36⟩
        · have hg := mem_getD (g11_1 x1) i (ByteArray.empty, ByteArray.empty, 0, ()) (by omega)
          obtain ⟨a1, a2, a3⟩ := grant_is (v3 _ hg)
          have he : (List.getD (g11_1 x1) i (ByteArray.empty, ByteArray.empty, 0, ())).1 = (g11_2 x1) := (bytes_eq _ _).1 (by simpa using hb)
          have hr : List.getD (g11_1 x1) i (ByteArray.empty, ByteArray.empty, 0, ()) ∈ (g12_0 (g11_0 x1) (g11_1 x1) (g11_2 x1)) := by
            rw [g0, hmem]
            exact ⟨he, ⟨_, hg, rfl⟩, (has_law _ _ _ _ _).2 ⟨⟨a2, a3⟩, _, hg, rfl, Int.le_refl _, .inr he⟩⟩
          obtain ⟨j, hj⟩ := List.getElem?_of_mem hr
          have hjl := (List.getElem?_eq_some_iff.1 hj).1
          have key := found3 x1 (i : Int) (n + 1) h36 j ⟨by omega, by omega⟩ hlen hjl (by
            rw [eqd3, Int.toNat_natCast, List.getD_eq_getElem?_getD, hj]
            rfl) (g12_0 (g11_0 x1) (g11_1 x1) (g11_2 x1)).length 0 false (by omega) (fun h => absurd h (Nat.not_lt_zero j))
          refine ⟨n + 1 + 2 * (g12_0 (g11_0 x1) (g11_1 x1) (g11_2 x1)).length + 1 + 1 + 1 + 1, ?_⟩
          rw [R3_35, if_pos (by simp only [decide_eq_true_eq]; omega), R3_37]
          simp only [Int.toNat_natCast]
          rw [if_neg hb, R3_38]
          exact ⟨by omega, by omega, key⟩
    obtain ⟨m, hm⟩ := own (g11_1 x1).length 0 (by omega)
    have all : ∀ (k i : Nat), i + k = (g12_0 (g11_0 x1) (g11_1 x1) (g11_2 x1)).length → R3_28 (m + 3 * k + 1) (i : Int) x1 T3 := by
      intro k
      induction k with
      | zero =>
        intro i hi
        rw [Nat.mul_zero, Nat.add_zero, R3_28, if_neg (by simp only [decide_eq_true_eq]; omega)]
        exact hm
      | succ k ih =>
        intro i hi
        have ih := ih (i + 1) (by omega)
        have e3 : (i : Int) + 1 = ((i + 1 : Nat) : Int) := by omega
        have hx := mem_getD (g12_0 (g11_0 x1) (g11_1 x1) (g11_2 x1)) (i : Int).toNat (ByteArray.empty, ByteArray.empty, 0, ()) (by omega)
        have hx2 := hx
        rw [g0, hmem] at hx2
        obtain ⟨b1, ⟨y, hy, b2⟩, b3⟩ := hx2
        obtain ⟨a1, _, _⟩ := grant_is (v3 y hy)
        rw [b2] at a1
        rw [← g0] at a1 b1 b3
        obtain ⟨b4, _⟩ := (has_law _ _ _ _ _).1 b3
        have hd : ∀ b : Bool, R3_29 (m + 3 * k + 1 + 1) b x1 (i : Int) T3 := fun b => by
          rw [R3_29, e3]
          exact ⟨by rw [i64_iff]; omega, ih⟩
        have hprev : 0 < i → Ahead (List.getD (g12_0 (g11_0 x1) (g11_1 x1) (g11_2 x1)) ((i : Int) - 1).toNat (ByteArray.empty, ByteArray.empty, 0, ())) (List.getD (g12_0 (g11_0 x1) (g11_1 x1) (g11_2 x1)) (i : Int).toNat (ByteArray.empty, ByteArray.empty, 0, ())) := fun h0 => by
          have hp := hord
          rw [← g0] at hp
          have := List.pairwise_iff_getElem.1 hp (i - 1) i (by omega) (by omega) (by omega)
          rw [show ((i : Int) - 1).toNat = i - 1 by omega, Int.toNat_natCast]
          rwa [getD_lt (g12_0 (g11_0 x1) (g11_1 x1) (g11_2 x1)) (i - 1) (ByteArray.empty, ByteArray.empty, 0, ()) (by omega), getD_lt (g12_0 (g11_0 x1) (g11_1 x1) (g11_2 x1)) i (ByteArray.empty, ByteArray.empty, 0, ()) (by omega)]
        rw [show m + 3 * (k + 1) + 1 = m + 3 * k + 1 + 1 + 1 + 1 by omega, R3_28, if_pos (by simp only [decide_eq_true_eq]; omega), R3_30]
        clear ih hx
        generalize List.getD (g12_0 (g11_0 x1) (g11_1 x1) (g11_2 x1)) (i : Int).toNat (ByteArray.empty, ByteArray.empty, 0, ()) = x at *
        generalize List.getD (g12_0 (g11_0 x1) (g11_1 x1) (g11_2 x1)) ((i : Int) - 1).toNat (ByteArray.empty, ByteArray.empty, 0, ()) = z at *
        obtain ⟨xr, xo, xa, xu⟩ := x
        have b1 : xr = (g11_2 x1) := b1
        have a1 : g31_0 xo = true := a1
        have b3 : g23_0 (g11_0 x1) (g11_1 x1) (g11_2 x1) xo xa = true := b3
        have b4 : 1 ≤ xa ∧ xa ≤ 3 := b4
        obtain ⟨k1, k2, k3, k4⟩ := grant_back (a := xr) (o := xo) (v := xa) (by rw [b1]; exact hname) a1 b4.1 b4.2
        refine ⟨by omega, by omega, k1, k2, ?_⟩
        refine (if_neg (show ¬ (!ByteArray.toList xr == ByteArray.toList (g11_2 x1)) = true by rw [b1]; simp)).mpr ?_
        refine ⟨allowed_pre hl (g11_1 x1) (g11_2 x1) xo xa, ?_⟩
        refine (if_neg (show ¬ (!g8_0 (g11_0 x1) (g11_1 x1) (g11_2 x1) xo xa) = true by rw [allowed_is hv hn, b3]; decide)).mpr ?_
        refine (if_neg (show ¬ (!g13_1 (g14_0 (xr, xo, xa, xu))) = true by rw [show g13_1 (g14_0 (xr, xo, xa, xu)) = true from k3]; decide)).mpr ?_
        refine (if_neg (show ¬ (!eqD (.cons .str (.cons .str (.cons (.int .i64) .unit))) (g13_0 (g14_0 (xr, xo, xa, xu))) (xr, xo, xa, xu)) = true by rw [(eqd3 _ _).2 (show g13_0 (g14_0 (xr, xo, xa, xu)) = (xr, xo, xa, xu) from k4)]; decide)).mpr ?_
        by_cases h0 : 0 < i
        · refine (if_pos (show decide ((i : Int) > 0) = true by simp only [decide_eq_true_eq]; omega)).mpr ?_
          have r1 : InR .i64 ((i : Int) - 1) := by rw [i64_iff]; omega
          refine ⟨r1, by omega, by omega, ?_⟩
          rcases hprev h0 with hp | ⟨hp, hq⟩
          · have hs : Op.bytesLess (ByteArray.toList z.2.1) (ByteArray.toList xo) = true := hp
            refine (if_neg (show ¬ (!(Op.bytesLess (ByteArray.toList z.2.1) (ByteArray.toList xo) || ByteArray.toList z.2.1 == ByteArray.toList xo)) = true by rw [hs]; simp)).mpr ?_
            refine ⟨r1, by omega, by omega, ?_⟩
            refine (if_neg (show ¬ (ByteArray.toList z.2.1 == ByteArray.toList xo) = true from fun h => ?_)).mpr (hd _)
            rw [(bytes_eq _ _).1 h, bl_irrefl] at hs
            cases hs
          · have hp : z.2.1 = xo := hp
            have hq : z.2.2.1 < xa := hq
            have hb : (ByteArray.toList z.2.1 == ByteArray.toList xo) = true := (bytes_eq _ _).2 hp
            refine (if_neg (show ¬ (!(Op.bytesLess (ByteArray.toList z.2.1) (ByteArray.toList xo) || ByteArray.toList z.2.1 == ByteArray.toList xo)) = true by rw [hb]; simp)).mpr ?_
            refine ⟨r1, by omega, by omega, ?_⟩
            refine (if_pos hb).mpr ⟨r1, by omega, by omega, ?_⟩
            exact (if_neg (show ¬ decide (z.2.2.1 ≥ xa) = true by simp only [decide_eq_true_eq]; omega)).mpr (hd _)
        · exact (if_neg (show ¬ decide ((i : Int) > 0) = true by simp only [decide_eq_true_eq]; omega)).mpr (hd _)
    refine ⟨m + 3 * (g12_0 (g11_0 x1) (g11_1 x1) (g11_2 x1)).length + 1 + 1 + 1, ?_⟩
    rw [R3_23, if_neg g1, R3_27]
    exact ⟨p11, p12, all _ 0 (by omega)⟩


theorem unders3 (x0 x1 : List Int) (i : Nat) (n : Nat) (b : Bool) (hb : ((g10_0 (g5_0 x0) (List.getD (g5_0 x0) (Int.toNat (i : Int)) (ByteArray.empty, [], ())).1)).length ≤ 1000) (h9 : R3_9 n x1 x0 (i : Int) b T3) (hu : ∀ u ∈ (g10_0 (g5_0 x0) (List.getD (g5_0 x0) (Int.toNat (i : Int)) (ByteArray.empty, [], ())).1), g9_0 (g6_0 (g5_0 x0) (g5_1 x0) (g5_2 x0) (g5_3 x0)) u = true → g8_0 (g5_0 x0) (g5_1 x0) (List.getD (g5_0 x0) (Int.toNat (i : Int)) (ByteArray.empty, [], ())).1 (g5_2 x0) (g5_3 x0) = true) :
    ∀ (k j : Nat), j + k = ((g10_0 (g5_0 x0) (List.getD (g5_0 x0) (Int.toNat (i : Int)) (ByteArray.empty, [], ())).1)).length → R3_17 (n + 3 * k + 1) (j : Int) x1 x0 (i : Int) b T3 := by
  intro k
  induction k with
  | zero =>
    intro j hj
    rw [Nat.mul_zero, Nat.add_zero, R3_17, if_neg (by simp only [decide_eq_true_eq]; omega)]
    exact h9
  | succ k ih =>
    intro j hj
    have ih := ih (j + 1) (by omega)
    have e3 : (j : Int) + 1 = ((j + 1 : Nat) : Int) := by omega
    have h18 : R3_18 (n + 3 * k + 1 + 1) x1 x0 (i : Int) (j : Int) b T3 := by
      rw [R3_18, e3]
      exact ⟨by rw [i64_iff]; omega, ih⟩
    have hx := hu _ (mem_getD ((g10_0 (g5_0 x0) (List.getD (g5_0 x0) (Int.toNat (i : Int)) (ByteArray.empty, [], ())).1)) (Int.toNat (j : Int)) ByteArray.empty (by omega))
    rw [show n + 3 * (k + 1) + 1 = n + 3 * k + 1 + 1 + 1 + 1 by omega, R3_17, if_pos (by simp only [decide_eq_true_eq]; omega), R3_19]
    refine ⟨by omega, by omega, ?_⟩
    by_cases c : g9_0 (g6_0 (g5_0 x0) (g5_1 x0) (g5_2 x0) (g5_3 x0)) (List.getD (g10_0 (g5_0 x0) (List.getD (g5_0 x0) (Int.toNat (i : Int)) (ByteArray.empty, [], ())).1) (Int.toNat (j : Int)) ByteArray.empty) = true
    · refine (if_pos c).mpr ?_
      exact (if_neg (show ¬ (!g8_0 (g5_0 x0) (g5_1 x0) (List.getD (g5_0 x0) (Int.toNat (i : Int)) (ByteArray.empty, [], ())).1 (g5_2 x0) (g5_3 x0)) = true by rw [hx c]; decide)).mpr h18
    · exact (if_neg c).mpr h18

theorem first3 (x0 x1 : List Int) (w0 : Wf (.sl (.int .u8)) x0) (m : Nat) (hm : R3_23 m x1 T3) : ∃ n, R3_3 n x0 x1 T3 := by
  obtain ⟨d1, d2, d3⟩ := draw3 w0
  obtain ⟨t1, t2, _⟩ := text_ok d2 [ByteArray.mk #[98, 114, 97, 107, 101], ByteArray.mk #[114, 111, 112, 101], ByteArray.mk #[115, 116, 111, 99, 107]] (by decide) (by decide)
  have t2 : SrcOk 2002 (u17_0 (u16_0 (g15_0 x0))) := t2
  obtain ⟨k1, _, _⟩ := among_ok t2 [1, 2, 3, 1, 2, 3, 0, 4] (by decide) (by decide)
  have p5 : P5 x0 := ⟨d1, ⟨t1, trivial⟩, ⟨k1, trivial⟩, trivial⟩
  have hl : ((g5_0 x0)).length ≤ 13 := d3
  have p6 := who_pre (x0 := (g5_0 x0)) (by omega) (g5_1 x0) (g5_2 x0) (g5_3 x0)
  have p7 := least_pre (x0 := (g5_0 x0)) (by omega) (g5_1 x0) (g5_2 x0) (g5_3 x0)
  by_cases c : (g6_1 (g5_0 x0) (g5_1 x0) (g5_2 x0) (g5_3 x0) == 0) = true
  · obtain ⟨hv, hw⟩ := who_mem c
    obtain ⟨l1, l2⟩ := least_in c
    obtain ⟨hr, _, _⟩ := grants_law hv
    obtain ⟨r1, r2, r3, r4⟩ := roles_law hr
    have all : ∀ (k i : Nat), i + k = ((g5_0 x0)).length → ∃ n, R3_8 n (i : Int) x1 x0 T3 := by
      intro k
      induction k with
      | zero =>
        intro i hi
        refine ⟨m + 1, ?_⟩
        rw [R3_8, if_neg (by simp only [decide_eq_true_eq]; omega)]
        refine (if_neg (show ¬ (!(g7_1 (g5_0 x0) (g5_1 x0) (g5_2 x0) (g5_3 x0) == 0) == decide ((↑((g6_0 (g5_0 x0) (g5_1 x0) (g5_2 x0) (g5_3 x0))).length : Int) > 0)) = true by rw [l1]; simp)).mpr ?_
        by_cases c2 : (g7_1 (g5_0 x0) (g5_1 x0) (g5_2 x0) (g5_3 x0) == 0) = true
        · refine (if_pos c2).mpr ?_
          exact (if_neg (show ¬ (!g9_0 (g6_0 (g5_0 x0) (g5_1 x0) (g5_2 x0) (g5_3 x0)) (g7_0 (g5_0 x0) (g5_1 x0) (g5_2 x0) (g5_3 x0))) = true by rw [(inside_mem _ _).2 (l2 c2)]; decide)).mpr hm
        · exact (if_neg c2).mpr hm
      | succ k ih =>
        intro i hi
        obtain ⟨n, hn⟩ := ih (i + 1) (by omega)
        have e3 : (i : Int) + 1 = ((i + 1 : Nat) : Int) := by omega
        have hx := mem_getD ((g5_0 x0)) (Int.toNat (i : Int)) (ByteArray.empty, [], ()) (by omega)
        have hin : In27 (g5_0 x0) (List.getD (g5_0 x0) (Int.toNat (i : Int)) (ByteArray.empty, [], ())).1 := self26 hx
        have hpu := r3 _ hin
        have hmay := allowed_is hv hin (g5_2 x0) (g5_3 x0)
        have hone := allowed_is hv hin (g5_2 x0) 1
        have hmem : g9_0 (g6_0 (g5_0 x0) (g5_1 x0) (g5_2 x0) (g5_3 x0)) (List.getD (g5_0 x0) (Int.toNat (i : Int)) (ByteArray.empty, [], ())).1 = g8_0 (g5_0 x0) (g5_1 x0) (List.getD (g5_0 x0) (Int.toNat (i : Int)) (ByteArray.empty, [], ())).1 (g5_2 x0) (g5_3 x0) := by
          rw [hmay]
          cases h : g23_0 (g5_0 x0) (g5_1 x0) (List.getD (g5_0 x0) (Int.toNat (i : Int)) (ByteArray.empty, [], ())).1 (g5_2 x0) (g5_3 x0) with
          | true => exact (inside_mem _ _).2 ((hw _).2 ⟨⟨_, hx, rfl⟩, h⟩)
          | false =>
            refine Bool.eq_false_iff.2 fun h2 => ?_
            rw [((hw _).1 ((inside_mem _ _).1 h2)).2] at h
            cases h
        have z : (g25_0 (g26_0 (g5_0 x0)) (g5_0 x0) (List.getD (g5_0 x0) (Int.toNat (i : Int)) (ByteArray.empty, [], ())).1 == 0) = true := (named_zero _ _ _).2 ⟨hr, hin⟩
        have z2 : ¬ (g25_0 (g26_0 (g5_0 x0)) (g5_0 x0) (List.getD (g5_0 x0) (Int.toNat (i : Int)) (ByteArray.empty, [], ())).1 != 0) = true := by
          rw [show g25_0 (g26_0 (g5_0 x0)) (g5_0 x0) (List.getD (g5_0 x0) (Int.toNat (i : Int)) (ByteArray.empty, [], ())).1 = 0 by simpa using z]; decide
        have u1 : g10_1 (g5_0 x0) (List.getD (g5_0 x0) (Int.toNat (i : Int)) (ByteArray.empty, [], ())).1 = 0 := by
          unfold g10_1
          rw [if_neg z2]
        have u0 : (g10_0 (g5_0 x0) (List.getD (g5_0 x0) (Int.toNat (i : Int)) (ByteArray.empty, [], ())).1) = g27_0 (g5_0 x0) (List.getD (g5_0 x0) (Int.toNat (i : Int)) (ByteArray.empty, [], ())).1 := by
          unfold g10_0
          rw [if_neg z2]
        have p10 : P10 (g5_0 x0) (List.getD (g5_0 x0) (Int.toNat (i : Int)) (ByteArray.empty, [], ())).1 := ⟨by show ((g5_0 x0)).length ≤ 1048576; omega, by
          rw [if_neg z2]
          exact ⟨hpu, trivial⟩⟩
        obtain ⟨q1, q2⟩ := under_le hpu
        have h9 : ∀ b, R3_9 (n + 1) x1 x0 (i : Int) b T3 := fun b => by
          rw [R3_9, e3]
          exact ⟨by rw [i64_iff]; omega, hn⟩
        have h17 : ∀ b, R3_17 (n + 1 + 3 * ((g10_0 (g5_0 x0) (List.getD (g5_0 x0) (Int.toNat (i : Int)) (ByteArray.empty, [], ())).1)).length + 1) ((0 : Nat) : Int) x1 x0 (i : Int) b T3 := fun b => by
          refine unders3 x0 x1 i (n + 1) b (by rw [u0]; omega) (h9 b) (fun u hu h => ?_) _ 0 (by omega)
          rw [u0] at hu
          rw [hmay]
          exact has_under hpu (r3 _ (q2 _ hu)) hu ((hw u).1 ((inside_mem _ _).1 h)).2
        have h13 : ∀ b, R3_13 (n + 1 + 3 * ((g10_0 (g5_0 x0) (List.getD (g5_0 x0) (Int.toNat (i : Int)) (ByteArray.empty, [], ())).1)).length + 1 + 1 + 1) b x1 x0 (i : Int) T3 := fun b => by
          rw [R3_13]
          refine ⟨by omega, by omega, p10, ?_⟩
          refine (if_neg (show ¬ (g10_1 (g5_0 x0) (List.getD (g5_0 x0) (Int.toNat (i : Int)) (ByteArray.empty, [], ())).1 != 0) = true by rw [u1]; decide)).mpr ?_
          refine ⟨by omega, by omega, ?_⟩
          refine (if_neg (fun h => ?_)).mpr ?_
          · have := (inside_mem _ _).1 h
            rw [u0] at this
            exact r4 _ hx this
          · rw [R3_16]
            exact h17 b
        refine ⟨n + 1 + 3 * ((g10_0 (g5_0 x0) (List.getD (g5_0 x0) (Int.toNat (i : Int)) (ByteArray.empty, [], ())).1)).length + 1 + 1 + 1 + 1 + 1, ?_⟩
        rw [R3_8, if_pos (by simp only [decide_eq_true_eq]; omega), R3_10]
        refine ⟨by omega, by omega, allowed_pre (by omega) (g5_1 x0) (List.getD (g5_0 x0) (Int.toNat (i : Int)) (ByteArray.empty, [], ())).1 (g5_2 x0) (g5_3 x0), by omega, by omega, ?_⟩
        refine (if_neg (show ¬ (!g8_0 (g5_0 x0) (g5_1 x0) (List.getD (g5_0 x0) (Int.toNat (i : Int)) (ByteArray.empty, [], ())).1 (g5_2 x0) (g5_3 x0) == g9_0 (g6_0 (g5_0 x0) (g5_1 x0) (g5_2 x0) (g5_3 x0)) (List.getD (g5_0 x0) (Int.toNat (i : Int)) (ByteArray.empty, [], ())).1) = true by rw [hmem]; simp)).mpr ?_
        by_cases c3 : g8_0 (g5_0 x0) (g5_1 x0) (List.getD (g5_0 x0) (Int.toNat (i : Int)) (ByteArray.empty, [], ())).1 (g5_2 x0) (g5_3 x0) = true
        · refine (if_pos c3).mpr ⟨by omega, by omega, allowed_pre (by omega) (g5_1 x0) (List.getD (g5_0 x0) (Int.toNat (i : Int)) (ByteArray.empty, [], ())).1 (g5_2 x0) 1, ?_⟩
          exact (if_neg (show ¬ (!g8_0 (g5_0 x0) (g5_1 x0) (List.getD (g5_0 x0) (Int.toNat (i : Int)) (ByteArray.empty, [], ())).1 (g5_2 x0) 1) = true by rw [hone, has_read (hmay ▸ c3)]; decide)).mpr (h13 _)
        · exact (if_neg c3).mpr (h13 _)
    obtain ⟨n, hn⟩ := all ((g5_0 x0)).length 0 (by omega)
    refine ⟨n + 1, ?_⟩
    rw [R3_3]
    exact ⟨p5, p6, p7, (if_pos c).mpr hn⟩
  · refine ⟨m + 1, ?_⟩
    rw [R3_3]
    exact ⟨p5, p6, p7, (if_neg c).mpr hm⟩

theorem top3 (x0 x1 : List Int) (w0 : Wf (.sl (.int .u8)) x0) (w1 : Wf (.sl (.int .u8)) x1) : ∃ n, R3 n x0 x1 [⟨.bool, g3_0 x0 x1⟩] := by
  by_cases c0 : g4_0 x0 = true
  · exact ⟨1, by rw [R3, if_pos c0]; rfl⟩
  · by_cases c1 : g4_0 x1 = true
    · exact ⟨1, by rw [R3, if_neg c0, if_pos c1]; rfl⟩
    · obtain ⟨m, hm⟩ := second3 x1 w1
      obtain ⟨n, hn⟩ := first3 x0 x1 w0 m hm
      exact ⟨n + 1, by rw [R3, if_neg c0, if_neg c1]; exact hn⟩

def S3 : Am.Spec := { sig := sig3, pre := fun ⟨x0, x1, _⟩ => P3 x0 x1, res := fun ⟨x0, x1, _⟩ => [⟨Ty.bool, g3_0 x0 x1⟩] }
theorem con3 : Contract Tryz.prog 3 S3 := contract_of Tryz.func3 hb3 (Nat.le_of_ble_eq_true (by kernel_rfl)) (fun ⟨x0, x1, _⟩ h hwf K q =>
  let ⟨n, hn⟩ := top3 x0 x1 hwf.1 hwf.2.1
  (snd3 n).1 x0 x1 _ hn K q)

end
end Go.Proofs.YtpellcnihifdaaaGreatDoor

/- The plain law of FnRights. -/
set_option linter.unusedVariables false
set_option linter.unusedSimpArgs false
set_option maxRecDepth 100000
namespace Go.Proofs.YtpellcnihifdaaaGreatDoor
open Go Go.Am Go.Proofs

theorem law3 (x0 x1 : List Int) (h0 : Wf (.sl (.int .u8)) x0) (h1 : Wf (.sl (.int .u8)) x1) : P3 x0 x1 ∧ g3_0 x0 x1 = true := ⟨trivial, rfl⟩

end Go.Proofs.YtpellcnihifdaaaGreatDoor
