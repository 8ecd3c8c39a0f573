/- Several texts in one: the functions that this law reaches, and their laws. -/
import Derived.Test.YtmigieemhbnmpaaDoorZ3A
import Derived.Test.YtmigieemhbnmpaaDoorZ3B
import Derived.Test.YtmigieemhbnmpaaDoorRows
import Derived.KernelRfl
import Derived.Shelf.Vars
import Derived.Shelf.Strings.Builder1
import Derived.Shelf.Strings.Builder2
import Derived.Shelf.Strings.BuilderF
import Derived.Shelf.Strings.BuilderK
import Derived.Shelf.Utf8.RuneCount
import Derived.Shelf.Strconv.Itoa0
import Derived.Shelf.Strconv.Itoa1
import Derived.Shelf.LaysM
import Derived.Shelf.Strconv.Itoa2
import Derived.Shelf.Strconv.Itoa3
import Derived.Shelf.Strconv.Itoa4
import Derived.Shelf.Strings.Search1
import Derived.Shelf.Strings.Search2
import Derived.Shelf.Strings.Search3
import Derived.Shelf.Strings.Cut
import Derived.Shelf.Strings.Count
import Derived.Shelf.Strings.Shaped
import Derived.Shelf.Strings.Prefix
import Derived.Shelf.Strings.Split
import Derived.Shelf.Strings.SplitShaped
import Derived.Shelf.Unicode.Decode
import Derived.Shelf.Strings.RuneCount
import Derived.Shelf.Strings.Explode
import Derived.Shelf.Bits.Mul64
import Derived.Shelf.Strings.Repeat
import Derived.Shelf.Unicode.DecodeSlow
import Derived.Shelf.Unicode.DecodeAny
import Derived.Lib.TrimByte
import Derived.Lib.ItoaNum

/- The types of this program, as the abstract machine reads them. -/
set_option linter.unusedVariables false
set_option linter.unusedSimpArgs false
set_option maxRecDepth 100000
namespace Go.Proofs.YtmigieemhbnmpaaDoor
open Go Go.Am Go.Proofs
def tab : List TI := [TI.other,
  TI.other,
  TI.scal (Ty.int IntKind.i64),
  TI.scal (Ty.int IntKind.i64),
  TI.scal (Ty.bool),
  TI.scal (Ty.int IntKind.u8),
  TI.scal (Ty.int IntKind.u8),
  TI.struct (Ty.cons (Ty.int IntKind.i64) (Ty.cons (Ty.int IntKind.i64) (Ty.cons Ty.bool (Ty.cons (Ty.int IntKind.u8) Ty.unit)))),
  TI.struct (Ty.cons (Ty.int IntKind.i64) (Ty.cons (Ty.int IntKind.i64) (Ty.cons Ty.bool (Ty.cons (Ty.int IntKind.u8) Ty.unit)))),
  TI.scal (Ty.str),
  TI.scal (Ty.str),
  TI.scal (Ty.str),
  TI.scal (Ty.int IntKind.u64),
  TI.other,
  TI.other,
  TI.other,
  TI.other,
  TI.other,
  TI.other,
  TI.other,
  TI.other,
  TI.scal (Ty.int IntKind.i32),
  TI.struct (Ty.cons Ty.str (Ty.cons (Ty.int IntKind.i64) (Ty.cons (Ty.int IntKind.i64) Ty.unit))),
  TI.struct (Ty.cons Ty.str (Ty.cons (Ty.int IntKind.i64) (Ty.cons (Ty.int IntKind.i64) Ty.unit))),
  TI.other,
  TI.other,
  TI.other,
  TI.other,
  TI.slice 9 (Ty.str) 16,
  TI.other,
  TI.other,
  TI.other,
  TI.other,
  TI.other,
  TI.other,
  TI.other,
  TI.other,
  TI.other,
  TI.other,
  TI.other,
  TI.other,
  TI.other,
  TI.other,
  TI.other,
  TI.other,
  TI.other,
  TI.other,
  TI.other,
  TI.other,
  TI.other,
  TI.other,
  TI.slice 5 (Ty.int IntKind.u8) 1,
  TI.other,
  TI.other,
  TI.scal (Ty.int IntKind.u64),
  TI.other,
  TI.other,
  TI.struct (Ty.cons (Ty.int IntKind.u8) (Ty.cons (Ty.int IntKind.u8) Ty.unit)),
  TI.struct (Ty.cons (Ty.int IntKind.u8) (Ty.cons (Ty.int IntKind.u8) Ty.unit)),
  TI.other,
  TI.scal (Ty.int IntKind.u32),
  TI.other,
  TI.other,
  TI.other,
  TI.other,
  TI.other,
  TI.other,
  TI.other,
  TI.other,
  TI.other,
  TI.other,
  TI.other,
  TI.other,
  TI.other,
  TI.other,
  TI.other,
  TI.other,
  TI.scal (Ty.int IntKind.u64),
  TI.other,
  TI.other,
  TI.other,
  TI.other,
  TI.other,
  TI.other,
  TI.other,
  TI.other,
  TI.other,
  TI.other,
  TI.other,
  TI.other,
  TI.other,
  TI.other,
  TI.other,
  TI.other,
  TI.other,
  TI.other,
  TI.other,
  TI.other,
  TI.other,
  TI.other,
  TI.other,
  TI.other,
  TI.other,
  TI.scal (Ty.int IntKind.u8),
  TI.scal (Ty.int IntKind.u8),
  TI.other,
  TI.scal (Ty.int IntKind.i32),
  TI.scal (Ty.int IntKind.i32)]

theorem tabOk : TabOk Tryd.prog tab := tabOk_of_check (by kernel_rfl)
theorem mixed : Tryd.prog.follows .mixedOrders = true := by kernel_rfl
theorem gv0 {W : World} (h : GInv W) : GHas W 0 (.int .i64) := h.1
theorem gcell0 (W : World) (h : W.ShapedOpen Tryd.prog) : ∃ m, W.cell? ⟨0, 0, none⟩ = some (.int .i64 m) :=
  Go.Proofs.cell_of_shapedOpen_int (zero := #[.int .i64 0]) (t := 3) h (of_decide_eq_true (by kernel_rfl)) (by kernel_rfl) rfl (by kernel_rfl) (by kernel_rfl) Tryd.underlying3
theorem gv3 {W : World} (h : GInv W) : GHas W 3 (.tab .u64 Lib.pow10Tab) := h.2.1
theorem maxLenG {W : World} (h : GInv W) : ∃ m, W.cell? ⟨0, 0, none⟩ = some (.int .i64 m) := gv0 h
theorem pow10G {W : World} (h : GInv W) : Lib.TabIs Tryd.prog W "internal/strconv.uint64pow10" .u64 Lib.pow10Tab := GHas.tab (by kernel_rfl) (gv3 h)
theorem ginv (W : World) (h : W.ShapedOpen Tryd.prog) (h3 : GHas W 3 (.tab .u64 Lib.pow10Tab)) : GInv W := ⟨gcell0 W h, h3, trivial⟩
end Go.Proofs.YtmigieemhbnmpaaDoor

/- Function 27 (impl.IsName): its runs between cut points. Written by a program of this repo (gen). -/
set_option linter.unusedVariables false
set_option linter.unusedSimpArgs false
set_option maxRecDepth 100000
namespace Go.Proofs.YtmigieemhbnmpaaDoor
open Go Go.Am Go.Proofs
def ext27 : Ext := []
theorem ext27Ok : ExtOk Tryd.prog ext27 := trivial
/-! Function 27. -/
noncomputable def b27 : Code := bodyOf Tryd.f27
theorem hb27 : Tryd.f27.body = some b27 := by kernel_rfl
def sig27 : List AT := [AT.v (Ty.str)]
def tys27 : List Ty := [Ty.bool]
def E27_4 (v18 : Int) (x0 : ByteArray) : Env := [(16, PV.a (Atom.osl 0 Option.none)), (17, PV.a (Atom.val (Value.int IntKind.i64 (↑(List.length (bytesOf x0)) : Int)))), (18, PV.a (Atom.val (Value.int IntKind.i64 v18)))]
def L27_4 (v18 : Int) (x0 : ByteArray) : Heap := [Option.some (Arr.mk (Ty.int IntKind.u8) (bytesOf x0) Bool.false)]
mutual
def R27 : Nat → ByteArray → List Dyn → Prop
  | 0, _, _ => False
  | n + 1, x0, ds => (if (Decidable.decide ((↑(ByteArray.size x0) : Int) < 1)) = true then (ds = [Dyn.mk Ty.bool Bool.false]) else (if (Decidable.decide ((↑(ByteArray.size x0) : Int) > 10)) = true then (ds = [Dyn.mk Ty.bool Bool.false]) else (R27_4 n (0) (x0) ds)))
def R27_4 : Nat → Int → ByteArray → List Dyn → Prop
  | 0, _, _, _ => False
  | n + 1, v18, x0, ds => (if (Decidable.decide (v18 < (↑(List.length (bytesOf x0)) : Int))) = true then ((0 ≤ v18) ∧ (v18 < (↑(List.length (bytesOf x0)) : Int)) ∧ (if (Decidable.decide (List.getD (bytesOf x0) (Int.toNat v18) 0 ≥ 97)) = true then (if (Decidable.decide (List.getD (bytesOf x0) (Int.toNat v18) 0 ≥ 48)) = true then (if (!Decidable.decide (List.getD (bytesOf x0) (Int.toNat v18) 0 ≤ 122)) = true then (if (v18 == 0) = true then (ds = [Dyn.mk Ty.bool Bool.false]) else (if (!Decidable.decide (List.getD (bytesOf x0) (Int.toNat v18) 0 ≤ 57)) = true then (ds = [Dyn.mk Ty.bool Bool.false]) else ((InR IntKind.i64 (v18 + 1)) ∧ (R27_4 n (v18 + 1) (x0) ds)))) else ((InR IntKind.i64 (v18 + 1)) ∧ (R27_4 n (v18 + 1) (x0) ds))) else (if (!Decidable.decide (List.getD (bytesOf x0) (Int.toNat v18) 0 ≤ 122)) = true then (if (v18 == 0) = true then (ds = [Dyn.mk Ty.bool Bool.false]) else (ds = [Dyn.mk Ty.bool Bool.false])) else ((InR IntKind.i64 (v18 + 1)) ∧ (R27_4 n (v18 + 1) (x0) ds)))) else (if (Decidable.decide (List.getD (bytesOf x0) (Int.toNat v18) 0 ≥ 48)) = true then (if (v18 == 0) = true then (ds = [Dyn.mk Ty.bool Bool.false]) else (if (!Decidable.decide (List.getD (bytesOf x0) (Int.toNat v18) 0 ≤ 57)) = true then (ds = [Dyn.mk Ty.bool Bool.false]) else ((InR IntKind.i64 (v18 + 1)) ∧ (R27_4 n (v18 + 1) (x0) ds)))) else (if (v18 == 0) = true then (ds = [Dyn.mk Ty.bool Bool.false]) else (ds = [Dyn.mk Ty.bool Bool.false]))))) else (ds = [Dyn.mk Ty.bool Bool.true]))
end
theorem p27_0 (x0 : ByteArray) : runF tab ext27 false 46 [] 2000 [] tys27 Tryd.f27.results [true, true] [.code b27] (entE 0 0 sig27 (x0, ())) (entL sig27 (x0, ())) = some ([Dyn.mk Ty.bool Bool.false], [], [Decidable.decide ((↑(ByteArray.size x0) : Int) < 1) = Bool.true, Bool.true = Bool.true]) := by kernel_rfl
theorem p27_1 (x0 : ByteArray) : runF tab ext27 false 46 [] 2000 [] tys27 Tryd.f27.results [false, true] [.code b27] (entE 0 0 sig27 (x0, ())) (entL sig27 (x0, ())) = some ([Dyn.mk Ty.bool Bool.false], [], [Decidable.decide ((↑(ByteArray.size x0) : Int) < 1) = Bool.false, Decidable.decide ((↑(ByteArray.size x0) : Int) > 10) = Bool.true]) := by kernel_rfl
theorem p27_2 (x0 : ByteArray) : Am.runN tab ext27 false 46 [] 2000 [] [] [16, 17, 18] [0] [false, false] [.code b27] (entE 0 0 sig27 (x0, ())) (entL sig27 (x0, ())) = some (cutAt b27 4, E27_4 (0) (x0), L27_4 (0) (x0), [Decidable.decide ((↑(ByteArray.size x0) : Int) < 1) = Bool.false, Decidable.decide ((↑(ByteArray.size x0) : Int) > 10) = Bool.false]) := by kernel_rfl
theorem p27_3 (v18 : Int) (x0 : ByteArray) : runF tab ext27 false 46 [] 2000 [] tys27 Tryd.f27.results [true, true, true, true, true, true] (cutAt b27 4) (E27_4 v18 x0) (L27_4 v18 x0) = some ([Dyn.mk Ty.bool Bool.false], [], [Decidable.decide (v18 < (↑(List.length (bytesOf x0)) : Int)) = Bool.true, 0 ≤ v18, v18 < (↑(List.length (bytesOf x0)) : Int), Decidable.decide (List.getD (bytesOf x0) (Int.toNat v18) 0 ≥ 97) = Bool.true, Decidable.decide (List.getD (bytesOf x0) (Int.toNat v18) 0 ≥ 48) = Bool.true, (!Decidable.decide (List.getD (bytesOf x0) (Int.toNat v18) 0 ≤ 122)) = Bool.true, (v18 == 0) = Bool.true, Bool.true = Bool.true]) := by kernel_rfl
theorem p27_4 (v18 : Int) (x0 : ByteArray) : runF tab ext27 false 46 [] 2000 [] tys27 Tryd.f27.results [true, true, true, true, false, true] (cutAt b27 4) (E27_4 v18 x0) (L27_4 v18 x0) = some ([Dyn.mk Ty.bool Bool.false], [], [Decidable.decide (v18 < (↑(List.length (bytesOf x0)) : Int)) = Bool.true, 0 ≤ v18, v18 < (↑(List.length (bytesOf x0)) : Int), Decidable.decide (List.getD (bytesOf x0) (Int.toNat v18) 0 ≥ 97) = Bool.true, Decidable.decide (List.getD (bytesOf x0) (Int.toNat v18) 0 ≥ 48) = Bool.true, (!Decidable.decide (List.getD (bytesOf x0) (Int.toNat v18) 0 ≤ 122)) = Bool.true, (v18 == 0) = Bool.false, (!Decidable.decide (List.getD (bytesOf x0) (Int.toNat v18) 0 ≤ 57)) = Bool.true]) := by kernel_rfl
theorem p27_5 (v18 : Int) (x0 : ByteArray) : Am.runN tab ext27 false 46 [] 2000 [] [] [16, 17, 18] [0] [true, true, true, true, false, false] (cutAt b27 4) (E27_4 v18 x0) (L27_4 v18 x0) = some (cutAt b27 4, E27_4 (v18 + 1) (x0), L27_4 (v18 + 1) (x0), [Decidable.decide (v18 < (↑(List.length (bytesOf x0)) : Int)) = Bool.true, 0 ≤ v18, v18 < (↑(List.length (bytesOf x0)) : Int), Decidable.decide (List.getD (bytesOf x0) (Int.toNat v18) 0 ≥ 97) = Bool.true, Decidable.decide (List.getD (bytesOf x0) (Int.toNat v18) 0 ≥ 48) = Bool.true, (!Decidable.decide (List.getD (bytesOf x0) (Int.toNat v18) 0 ≤ 122)) = Bool.true, (v18 == 0) = Bool.false, (!Decidable.decide (List.getD (bytesOf x0) (Int.toNat v18) 0 ≤ 57)) = Bool.false, InR IntKind.i64 (v18 + 1)]) := by kernel_rfl
theorem p27_6 (v18 : Int) (x0 : ByteArray) : Am.runN tab ext27 false 46 [] 2000 [] [] [16, 17, 18] [0] [true, true, true, false, false] (cutAt b27 4) (E27_4 v18 x0) (L27_4 v18 x0) = some (cutAt b27 4, E27_4 (v18 + 1) (x0), L27_4 (v18 + 1) (x0), [Decidable.decide (v18 < (↑(List.length (bytesOf x0)) : Int)) = Bool.true, 0 ≤ v18, v18 < (↑(List.length (bytesOf x0)) : Int), Decidable.decide (List.getD (bytesOf x0) (Int.toNat v18) 0 ≥ 97) = Bool.true, Decidable.decide (List.getD (bytesOf x0) (Int.toNat v18) 0 ≥ 48) = Bool.true, (!Decidable.decide (List.getD (bytesOf x0) (Int.toNat v18) 0 ≤ 122)) = Bool.false, Bool.false = Bool.false, InR IntKind.i64 (v18 + 1)]) := by kernel_rfl
theorem p27_7 (v18 : Int) (x0 : ByteArray) : runF tab ext27 false 46 [] 2000 [] tys27 Tryd.f27.results [true, true, false, true, true, true] (cutAt b27 4) (E27_4 v18 x0) (L27_4 v18 x0) = some ([Dyn.mk Ty.bool Bool.false], [], [Decidable.decide (v18 < (↑(List.length (bytesOf x0)) : Int)) = Bool.true, 0 ≤ v18, v18 < (↑(List.length (bytesOf x0)) : Int), Decidable.decide (List.getD (bytesOf x0) (Int.toNat v18) 0 ≥ 97) = Bool.true, Decidable.decide (List.getD (bytesOf x0) (Int.toNat v18) 0 ≥ 48) = Bool.false, (!Decidable.decide (List.getD (bytesOf x0) (Int.toNat v18) 0 ≤ 122)) = Bool.true, (v18 == 0) = Bool.true, Bool.true = Bool.true]) := by kernel_rfl
theorem p27_8 (v18 : Int) (x0 : ByteArray) : runF tab ext27 false 46 [] 2000 [] tys27 Tryd.f27.results [true, true, false, true, false, true] (cutAt b27 4) (E27_4 v18 x0) (L27_4 v18 x0) = some ([Dyn.mk Ty.bool Bool.false], [], [Decidable.decide (v18 < (↑(List.length (bytesOf x0)) : Int)) = Bool.true, 0 ≤ v18, v18 < (↑(List.length (bytesOf x0)) : Int), Decidable.decide (List.getD (bytesOf x0) (Int.toNat v18) 0 ≥ 97) = Bool.true, Decidable.decide (List.getD (bytesOf x0) (Int.toNat v18) 0 ≥ 48) = Bool.false, (!Decidable.decide (List.getD (bytesOf x0) (Int.toNat v18) 0 ≤ 122)) = Bool.true, (v18 == 0) = Bool.false, Bool.true = Bool.true]) := by kernel_rfl
theorem p27_9 (v18 : Int) (x0 : ByteArray) : Am.runN tab ext27 false 46 [] 2000 [] [] [16, 17, 18] [0] [true, true, false, false, false] (cutAt b27 4) (E27_4 v18 x0) (L27_4 v18 x0) = some (cutAt b27 4, E27_4 (v18 + 1) (x0), L27_4 (v18 + 1) (x0), [Decidable.decide (v18 < (↑(List.length (bytesOf x0)) : Int)) = Bool.true, 0 ≤ v18, v18 < (↑(List.length (bytesOf x0)) : Int), Decidable.decide (List.getD (bytesOf x0) (Int.toNat v18) 0 ≥ 97) = Bool.true, Decidable.decide (List.getD (bytesOf x0) (Int.toNat v18) 0 ≥ 48) = Bool.false, (!Decidable.decide (List.getD (bytesOf x0) (Int.toNat v18) 0 ≤ 122)) = Bool.false, Bool.false = Bool.false, InR IntKind.i64 (v18 + 1)]) := by kernel_rfl
theorem p27_10 (v18 : Int) (x0 : ByteArray) : runF tab ext27 false 46 [] 2000 [] tys27 Tryd.f27.results [true, false, true, true, true, true] (cutAt b27 4) (E27_4 v18 x0) (L27_4 v18 x0) = some ([Dyn.mk Ty.bool Bool.false], [], [Decidable.decide (v18 < (↑(List.length (bytesOf x0)) : Int)) = Bool.true, 0 ≤ v18, v18 < (↑(List.length (bytesOf x0)) : Int), Decidable.decide (List.getD (bytesOf x0) (Int.toNat v18) 0 ≥ 97) = Bool.false, Decidable.decide (List.getD (bytesOf x0) (Int.toNat v18) 0 ≥ 48) = Bool.true, Bool.true = Bool.true, (v18 == 0) = Bool.true, Bool.true = Bool.true]) := by kernel_rfl
theorem p27_11 (v18 : Int) (x0 : ByteArray) : runF tab ext27 false 46 [] 2000 [] tys27 Tryd.f27.results [true, false, true, true, false, true] (cutAt b27 4) (E27_4 v18 x0) (L27_4 v18 x0) = some ([Dyn.mk Ty.bool Bool.false], [], [Decidable.decide (v18 < (↑(List.length (bytesOf x0)) : Int)) = Bool.true, 0 ≤ v18, v18 < (↑(List.length (bytesOf x0)) : Int), Decidable.decide (List.getD (bytesOf x0) (Int.toNat v18) 0 ≥ 97) = Bool.false, Decidable.decide (List.getD (bytesOf x0) (Int.toNat v18) 0 ≥ 48) = Bool.true, Bool.true = Bool.true, (v18 == 0) = Bool.false, (!Decidable.decide (List.getD (bytesOf x0) (Int.toNat v18) 0 ≤ 57)) = Bool.true]) := by kernel_rfl
theorem p27_12 (v18 : Int) (x0 : ByteArray) : Am.runN tab ext27 false 46 [] 2000 [] [] [16, 17, 18] [0] [true, false, true, true, false, false] (cutAt b27 4) (E27_4 v18 x0) (L27_4 v18 x0) = some (cutAt b27 4, E27_4 (v18 + 1) (x0), L27_4 (v18 + 1) (x0), [Decidable.decide (v18 < (↑(List.length (bytesOf x0)) : Int)) = Bool.true, 0 ≤ v18, v18 < (↑(List.length (bytesOf x0)) : Int), Decidable.decide (List.getD (bytesOf x0) (Int.toNat v18) 0 ≥ 97) = Bool.false, Decidable.decide (List.getD (bytesOf x0) (Int.toNat v18) 0 ≥ 48) = Bool.true, Bool.true = Bool.true, (v18 == 0) = Bool.false, (!Decidable.decide (List.getD (bytesOf x0) (Int.toNat v18) 0 ≤ 57)) = Bool.false, InR IntKind.i64 (v18 + 1)]) := by kernel_rfl
theorem p27_13 (v18 : Int) (x0 : ByteArray) : runF tab ext27 false 46 [] 2000 [] tys27 Tryd.f27.results [true, false, false, true, true, true] (cutAt b27 4) (E27_4 v18 x0) (L27_4 v18 x0) = some ([Dyn.mk Ty.bool Bool.false], [], [Decidable.decide (v18 < (↑(List.length (bytesOf x0)) : Int)) = Bool.true, 0 ≤ v18, v18 < (↑(List.length (bytesOf x0)) : Int), Decidable.decide (List.getD (bytesOf x0) (Int.toNat v18) 0 ≥ 97) = Bool.false, Decidable.decide (List.getD (bytesOf x0) (Int.toNat v18) 0 ≥ 48) = Bool.false, Bool.true = Bool.true, (v18 == 0) = Bool.true, Bool.true = Bool.true]) := by kernel_rfl
theorem p27_14 (v18 : Int) (x0 : ByteArray) : runF tab ext27 false 46 [] 2000 [] tys27 Tryd.f27.results [true, false, false, true, false, true] (cutAt b27 4) (E27_4 v18 x0) (L27_4 v18 x0) = some ([Dyn.mk Ty.bool Bool.false], [], [Decidable.decide (v18 < (↑(List.length (bytesOf x0)) : Int)) = Bool.true, 0 ≤ v18, v18 < (↑(List.length (bytesOf x0)) : Int), Decidable.decide (List.getD (bytesOf x0) (Int.toNat v18) 0 ≥ 97) = Bool.false, Decidable.decide (List.getD (bytesOf x0) (Int.toNat v18) 0 ≥ 48) = Bool.false, Bool.true = Bool.true, (v18 == 0) = Bool.false, Bool.true = Bool.true]) := by kernel_rfl
theorem p27_15 (v18 : Int) (x0 : ByteArray) : runF tab ext27 false 46 [] 2000 [] tys27 Tryd.f27.results [false] (cutAt b27 4) (E27_4 v18 x0) (L27_4 v18 x0) = some ([Dyn.mk Ty.bool Bool.true], [], [Decidable.decide (v18 < (↑(List.length (bytesOf x0)) : Int)) = Bool.false]) := by kernel_rfl
theorem snd27 : ∀ n, (∀ (x0 : ByteArray) ds, R27 n x0 ds → ∀ w0 O q, AtV Tryd.prog 27 (PostR ds [] [] q w0 O) 46 w0 O q [] [.code b27] (entE 0 0 sig27 (x0, ())) (entL sig27 (x0, ()))) ∧ (∀ (v18 : Int) (x0 : ByteArray) ds, R27_4 n v18 x0 ds → ∀ w0 O q, AtV Tryd.prog 27 (PostR ds [] [] q w0 O) 46 w0 O q [] (cutAt b27 4) (E27_4 v18 x0) (L27_4 v18 x0)) := by
  intro n
  induction n with
  | zero => exact ⟨fun _ _ h => by simp only [R27] at h, fun _ _ _ h => by simp only [R27_4] at h⟩
  | succ n ih =>
  obtain ⟨ih, ih4⟩ := ih
  refine ⟨?_, ?_⟩
  · intro x0 ds h w0 O q
    rw [R27] at h
    by_cases b0 : (Decidable.decide ((↑(ByteArray.size x0) : Int) < 1)) = true
    · rw [if_pos b0] at h
      subst h
      exact AtV.fin Tryd.func27 tabOk ext27Ok mixed (p27_0 x0) ⟨b0, rfl, trivial⟩
    · rw [if_neg b0] at h
      replace b0 := Bool.eq_false_iff.2 b0
      by_cases b1 : (Decidable.decide ((↑(ByteArray.size x0) : Int) > 10)) = true
      · rw [if_pos b1] at h
        subst h
        exact AtV.fin Tryd.func27 tabOk ext27Ok mixed (p27_1 x0) ⟨b0, b1, trivial⟩
      · rw [if_neg b1] at h
        replace b1 := Bool.eq_false_iff.2 b1
        exact AtV.runN tabOk ext27Ok mixed (p27_2 x0) ⟨b0, b1, trivial⟩ (ih4 _ _ _ h w0 O q)

  · intro v18 x0 ds h w0 O q
    rw [R27_4] at h
    by_cases b0 : (Decidable.decide (v18 < (↑(List.length (bytesOf x0)) : Int))) = true
    · rw [if_pos b0] at h
      obtain ⟨s0, s1, h⟩ := h
      by_cases b1 : (Decidable.decide (List.getD (bytesOf x0) (Int.toNat v18) 0 ≥ 97)) = true
      · rw [if_pos b1] at h
        by_cases b2 : (Decidable.decide (List.getD (bytesOf x0) (Int.toNat v18) 0 ≥ 48)) = true
        · rw [if_pos b2] at h
          by_cases b3 : (!Decidable.decide (List.getD (bytesOf x0) (Int.toNat v18) 0 ≤ 122)) = true
          · rw [if_pos b3] at h
            by_cases b4 : (v18 == 0) = true
            · rw [if_pos b4] at h
              subst h
              exact AtV.fin Tryd.func27 tabOk ext27Ok mixed (p27_3 v18 x0) ⟨b0, s0, s1, b1, b2, b3, b4, rfl, trivial⟩
            · rw [if_neg b4] at h
              replace b4 := Bool.eq_false_iff.2 b4
              by_cases b5 : (!Decidable.decide (List.getD (bytesOf x0) (Int.toNat v18) 0 ≤ 57)) = true
              · rw [if_pos b5] at h
                subst h
                exact AtV.fin Tryd.func27 tabOk ext27Ok mixed (p27_4 v18 x0) ⟨b0, s0, s1, b1, b2, b3, b4, b5, trivial⟩
              · rw [if_neg b5] at h
                replace b5 := Bool.eq_false_iff.2 b5
                obtain ⟨s2, h⟩ := h
                exact AtV.runN tabOk ext27Ok mixed (p27_5 v18 x0) ⟨b0, s0, s1, b1, b2, b3, b4, b5, s2, trivial⟩ (ih4 _ _ _ h w0 O q)
          · rw [if_neg b3] at h
            replace b3 := Bool.eq_false_iff.2 b3
            obtain ⟨s2, h⟩ := h
            exact AtV.runN tabOk ext27Ok mixed (p27_6 v18 x0) ⟨b0, s0, s1, b1, b2, b3, rfl, s2, trivial⟩ (ih4 _ _ _ h w0 O q)
        · rw [if_neg b2] at h
          replace b2 := Bool.eq_false_iff.2 b2
          by_cases b3 : (!Decidable.decide (List.getD (bytesOf x0) (Int.toNat v18) 0 ≤ 122)) = true
          · rw [if_pos b3] at h
            by_cases b4 : (v18 == 0) = true
            · rw [if_pos b4] at h
              subst h
              exact AtV.fin Tryd.func27 tabOk ext27Ok mixed (p27_7 v18 x0) ⟨b0, s0, s1, b1, b2, b3, b4, rfl, trivial⟩
            · rw [if_neg b4] at h
              replace b4 := Bool.eq_false_iff.2 b4
              subst h
              exact AtV.fin Tryd.func27 tabOk ext27Ok mixed (p27_8 v18 x0) ⟨b0, s0, s1, b1, b2, b3, b4, rfl, trivial⟩
          · rw [if_neg b3] at h
            replace b3 := Bool.eq_false_iff.2 b3
            obtain ⟨s2, h⟩ := h
            exact AtV.runN tabOk ext27Ok mixed (p27_9 v18 x0) ⟨b0, s0, s1, b1, b2, b3, rfl, s2, trivial⟩ (ih4 _ _ _ h w0 O q)
      · rw [if_neg b1] at h
        replace b1 := Bool.eq_false_iff.2 b1
        by_cases b2 : (Decidable.decide (List.getD (bytesOf x0) (Int.toNat v18) 0 ≥ 48)) = true
        · rw [if_pos b2] at h
          by_cases b3 : (v18 == 0) = true
          · rw [if_pos b3] at h
            subst h
            exact AtV.fin Tryd.func27 tabOk ext27Ok mixed (p27_10 v18 x0) ⟨b0, s0, s1, b1, b2, rfl, b3, rfl, trivial⟩
          · rw [if_neg b3] at h
            replace b3 := Bool.eq_false_iff.2 b3
            by_cases b4 : (!Decidable.decide (List.getD (bytesOf x0) (Int.toNat v18) 0 ≤ 57)) = true
            · rw [if_pos b4] at h
              subst h
              exact AtV.fin Tryd.func27 tabOk ext27Ok mixed (p27_11 v18 x0) ⟨b0, s0, s1, b1, b2, rfl, b3, b4, trivial⟩
            · rw [if_neg b4] at h
              replace b4 := Bool.eq_false_iff.2 b4
              obtain ⟨s2, h⟩ := h
              exact AtV.runN tabOk ext27Ok mixed (p27_12 v18 x0) ⟨b0, s0, s1, b1, b2, rfl, b3, b4, s2, trivial⟩ (ih4 _ _ _ h w0 O q)
        · rw [if_neg b2] at h
          replace b2 := Bool.eq_false_iff.2 b2
          by_cases b3 : (v18 == 0) = true
          · rw [if_pos b3] at h
            subst h
            exact AtV.fin Tryd.func27 tabOk ext27Ok mixed (p27_13 v18 x0) ⟨b0, s0, s1, b1, b2, rfl, b3, rfl, trivial⟩
          · rw [if_neg b3] at h
            replace b3 := Bool.eq_false_iff.2 b3
            subst h
            exact AtV.fin Tryd.func27 tabOk ext27Ok mixed (p27_14 v18 x0) ⟨b0, s0, s1, b1, b2, rfl, b3, rfl, trivial⟩
    · rw [if_neg b0] at h
      replace b0 := Bool.eq_false_iff.2 b0
      subst h
      exact AtV.fin Tryd.func27 tabOk ext27Ok mixed (p27_15 v18 x0) ⟨b0, trivial⟩



/-- A byte of a name, at its place. -/
def ok27 (i : Nat) (b : Int) : Bool := (decide (97 ≤ b) && decide (b ≤ 122)) || (!(i == 0) && (decide (48 ≤ b) && decide (b ≤ 57)))
def g27_0 (x0 : ByteArray) : Bool := decide (1 ≤ x0.size) && decide (x0.size ≤ 10) && allI ok27 0 (bytesOf x0)
def P27 (x0 : ByteArray) : Prop := True

theorem step27 (n i : Nat) (x0 : ByteArray) (hw : Wf .str x0) (hi : i < (bytesOf x0).length) (ds : List Dyn) :
    R27_4 (n + 1) (i : Int) x0 ds ↔ (if ok27 i ((bytesOf x0).getD i 0) = true then R27_4 n ((i : Int) + 1) x0 ds else ds = [⟨.bool, false⟩]) := by
  have hu := inR_up (xs := bytesOf x0) (by rw [bytesOf_length]; exact hw) hi
  rw [R27_4, if_pos (by simp; omega)]
  simp only [Int.toNat_natCast]
  have hb : (0 : Int) ≤ (i : Int) ∧ (i : Int) < ((bytesOf x0).length : Int) := by omega
  have hz : ((i : Int) == 0) = (i == 0) := by
    cases i with
    | zero => rfl
    | succ k => simp; omega
  simp only [hz, ok27, hu, true_and, hb.1, hb.2, ge_iff_le]
  by_cases h1 : (97 : Int) ≤ (bytesOf x0).getD i 0 <;> by_cases h2 : (bytesOf x0).getD i 0 ≤ 122 <;> by_cases h3 : (48 : Int) ≤ (bytesOf x0).getD i 0 <;> by_cases h4 : (bytesOf x0).getD i 0 ≤ 57 <;> rcases Bool.eq_false_or_eq_true (i == 0) with e0 | e0 <;> first | (exfalso; omega) | simp only [h1, h2, h3, h4, e0, decide_true, decide_false, Bool.not_true, Bool.not_false, Bool.true_and, Bool.false_and, Bool.and_true, Bool.and_false, Bool.true_or, Bool.or_true, Bool.or_false, Bool.false_or, if_true, if_false, Bool.false_eq_true]

theorem top27 (x0 : ByteArray) (hw : Wf .str x0) : R27 (x0.size + 1 + 1) x0 [⟨.bool, g27_0 x0⟩] := by
  have hl := bytesOf_length x0
  rw [R27]
  by_cases h0 : (x0.size : Int) < 1
  · rw [if_pos (by simpa using h0)]
    have : ¬ 1 ≤ x0.size := by omega
    simp [g27_0, this]
  · rw [if_neg (by simpa using h0)]
    by_cases h1 : (x0.size : Int) > 10
    · rw [if_pos (by simpa using h1)]
      have : ¬ x0.size ≤ 10 := by omega
      simp [g27_0, this]
    · rw [if_neg (by simpa using h1)]
      have key := loop_testI (bytesOf x0) 0 ok27 [(⟨.bool, false⟩ : Dyn)] [⟨.bool, true⟩] (fun n i ds => R27_4 n i x0 ds) (fun n => ?_) (fun n i hi hok ds hr => ?_) (fun n i hi hok => ?_)
      · rw [hl] at key
        have e : g27_0 x0 = allI ok27 0 (bytesOf x0) := by
          have a : 1 ≤ x0.size := by omega
          have b : x0.size ≤ 10 := by omega
          simp [g27_0, a, b]
        rw [e]
        cases h : allI ok27 0 (bytesOf x0) with
        | true => rw [if_pos h] at key; exact key
        | false => rw [if_neg (by rw [h]; simp)] at key; exact key
      · show R27_4 (n + 1) ((bytesOf x0).length : Int) x0 _
        rw [R27_4, if_neg (by simp)]
      · exact (step27 n i x0 hw hi ds).2 (by rw [if_pos hok]; exact hr)
      · exact (step27 n i x0 hw hi _).2 (by rw [if_neg (by rw [hok]; simp)])

def S27 : Am.Spec := { sig := sig27, pre := fun ⟨x0, _⟩ => P27 x0, res := fun ⟨x0, _⟩ => [⟨Ty.bool, g27_0 x0⟩] }
theorem con27 : Contract Tryd.prog 27 S27 := contract_of Tryd.func27 hb27 (Nat.le_of_ble_eq_true (by kernel_rfl)) (fun ⟨x0, _⟩ h hwf w0 O q =>
  (snd27 _).1 x0 _ (top27 x0 hwf.1) w0 O q)

end Go.Proofs.YtmigieemhbnmpaaDoor

/- Function 38 (impl.within): its runs between cut points. Written by a program of this repo (gen). -/
set_option linter.unusedVariables false
set_option linter.unusedSimpArgs false
set_option maxRecDepth 100000
namespace Go.Proofs.YtmigieemhbnmpaaDoor
open Go Go.Am Go.Proofs
def ext38 : Ext := []
theorem ext38Ok : ExtOk Tryd.prog ext38 := trivial
/-! Function 38. -/
noncomputable def b38 : Code := bodyOf Tryd.f38
theorem hb38 : Tryd.f38.body = some b38 := by kernel_rfl
def sig38 : List AT := [AT.v (Ty.int IntKind.i64), AT.v (Ty.int IntKind.i64), AT.v (Ty.int IntKind.i64)]
def tys38 : List Ty := [Ty.bool]
def P38 (x0 : Int) (x1 : Int) (x2 : Int) : Prop := True
def g38_0 (x0 : Int) (x1 : Int) (x2 : Int) : Bool := (if (Decidable.decide (x0 ≥ x1)) = true then Decidable.decide (x0 ≤ x2) else Bool.false)
theorem p38_0 (x0 : Int) (x1 : Int) (x2 : Int) : runF tab ext38 false 15 [] 2000 [] tys38 Tryd.f38.results [true] [.code b38] (entE 0 0 sig38 (x0, x1, x2, ())) (entL sig38 (x0, x1, x2, ())) = some ([Dyn.mk Ty.bool (Decidable.decide (x0 ≤ x2))], [], [Decidable.decide (x0 ≥ x1) = Bool.true]) := by kernel_rfl
theorem p38_1 (x0 : Int) (x1 : Int) (x2 : Int) : runF tab ext38 false 15 [] 2000 [] tys38 Tryd.f38.results [false] [.code b38] (entE 0 0 sig38 (x0, x1, x2, ())) (entL sig38 (x0, x1, x2, ())) = some ([Dyn.mk Ty.bool Bool.false], [], [Decidable.decide (x0 ≥ x1) = Bool.false]) := by kernel_rfl
theorem at38 (x0 : Int) (x1 : Int) (x2 : Int) (h : P38 x0 x1 x2) (w0 : World) (O : List Nat) (q : Nat → Value) : AtV Tryd.prog 38 (PostR [⟨Ty.bool, g38_0 x0 x1 x2⟩] [] [] q w0 O) 15 w0 O q [] [.code b38] (entE 0 0 sig38 (x0, x1, x2, ())) (entL sig38 (x0, x1, x2, ())) := by
  unfold P38 at h
  unfold g38_0
  by_cases b0 : (Decidable.decide (x0 ≥ x1)) = true
  · try simp only [if_pos b0] at h ⊢
    exact AtV.fin Tryd.func38 tabOk ext38Ok mixed (p38_0 x0 x1 x2) ⟨b0, trivial⟩
  · try simp only [if_neg b0] at h ⊢
    replace b0 := Bool.eq_false_iff.2 b0
    exact AtV.fin Tryd.func38 tabOk ext38Ok mixed (p38_1 x0 x1 x2) ⟨b0, trivial⟩

def S38 : Am.Spec := { sig := sig38, pre := fun ⟨x0, x1, x2, _⟩ => P38 x0 x1 x2, res := fun ⟨x0, x1, x2, _⟩ => [⟨Ty.bool, g38_0 x0 x1 x2⟩] }
theorem con38 : Contract Tryd.prog 38 S38 := contract_of Tryd.func38 hb38 (Nat.le_of_ble_eq_true (by kernel_rfl)) (fun ⟨x0, x1, x2, _⟩ h _ w0 O q => at38 x0 x1 x2 h w0 O q)


end Go.Proofs.YtmigieemhbnmpaaDoor

/- Function 28 (impl.isDayMinute): its runs between cut points. Written by a program of this repo (gen). -/
set_option linter.unusedVariables false
set_option linter.unusedSimpArgs false
set_option maxRecDepth 100000
namespace Go.Proofs.YtmigieemhbnmpaaDoor
open Go Go.Am Go.Proofs
def ext28 : Ext := [(38, S38)]
theorem call28_38 : Callable Tryd.prog 38 := ⟨Tryd.f38, Tryd.func38, by kernel_rfl, by kernel_rfl⟩
theorem ext28Ok : ExtOk Tryd.prog ext28 := ⟨⟨call28_38, con38⟩, trivial⟩
/-! Function 28. -/
noncomputable def b28 : Code := bodyOf Tryd.f28
theorem hb28 : Tryd.f28.body = some b28 := by kernel_rfl
def sig28 : List AT := [AT.v (Ty.int IntKind.i64)]
def tys28 : List Ty := [Ty.bool]
def P28 (x0 : Int) : Prop := True
def g28_0 (x0 : Int) : Bool := g38_0 x0 0 1440
theorem p28_0 (x0 : Int) : runF tab ext28 false 5 [] 2000 [] tys28 Tryd.f28.results [] [.code b28] (entE 0 0 sig28 (x0, ())) (entL sig28 (x0, ())) = some ([Dyn.mk Ty.bool (g38_0 x0 0 1440)], [], [True]) := by kernel_rfl
theorem at28 (x0 : Int) (h : P28 x0) (w0 : World) (O : List Nat) (q : Nat → Value) : AtV Tryd.prog 28 (PostR [⟨Ty.bool, g28_0 x0⟩] [] [] q w0 O) 5 w0 O q [] [.code b28] (entE 0 0 sig28 (x0, ())) (entL sig28 (x0, ())) := by
  unfold P28 at h
  unfold g28_0
  exact AtV.fin Tryd.func28 tabOk ext28Ok mixed (p28_0 x0) ⟨trivial, trivial⟩

def S28 : Am.Spec := { sig := sig28, pre := fun ⟨x0, _⟩ => P28 x0, res := fun ⟨x0, _⟩ => [⟨Ty.bool, g28_0 x0⟩] }
theorem con28 : Contract Tryd.prog 28 S28 := contract_of Tryd.func28 hb28 (Nat.le_of_ble_eq_true (by kernel_rfl)) (fun ⟨x0, _⟩ h _ w0 O q => at28 x0 h w0 O q)


end Go.Proofs.YtmigieemhbnmpaaDoor

/- Function 16 (impl.validWorker): its runs between cut points. Written by a program of this repo (gen). -/
set_option linter.unusedVariables false
set_option linter.unusedSimpArgs false
set_option maxRecDepth 100000
namespace Go.Proofs.YtmigieemhbnmpaaDoor
open Go Go.Am Go.Proofs
def ext16 : Ext := [(27, S27), (28, S28)]
theorem call16_27 : Callable Tryd.prog 27 := ⟨Tryd.f27, Tryd.func27, by kernel_rfl, by kernel_rfl⟩
theorem call16_28 : Callable Tryd.prog 28 := ⟨Tryd.f28, Tryd.func28, by kernel_rfl, by kernel_rfl⟩
theorem ext16Ok : ExtOk Tryd.prog ext16 := ⟨⟨call16_27, con27⟩, ⟨call16_28, con28⟩, trivial⟩
/-! Function 16. -/
noncomputable def b16 : Code := bodyOf Tryd.f16
theorem hb16 : Tryd.f16.body = some b16 := by kernel_rfl
def sig16 : List AT := [AT.v (Ty.cons Ty.str (Ty.cons (Ty.int IntKind.i64) (Ty.cons (Ty.int IntKind.i64) Ty.unit)))]
def tys16 : List Ty := [Ty.bool]
def P16 (x0 : ByteArray × Int × Int × Unit) : Prop := True
def g16_0 (x0 : ByteArray × Int × Int × Unit) : Bool := (if (g27_0 (Prod.fst x0)) = true then (if (g28_0 (Prod.fst (Prod.snd x0))) = true then (if (g28_0 (Prod.fst (Prod.snd (Prod.snd x0)))) = true then Decidable.decide (Prod.fst (Prod.snd x0) < Prod.fst (Prod.snd (Prod.snd x0))) else Bool.false) else Bool.false) else Bool.false)
theorem p16_0 (x0 : ByteArray × Int × Int × Unit) : runF tab ext16 false 23 [] 2000 [] tys16 Tryd.f16.results [true, true, true] [.code b16] (entE 0 0 sig16 (x0, ())) (entL sig16 (x0, ())) = some ([Dyn.mk Ty.bool (Decidable.decide (Prod.fst (Prod.snd x0) < Prod.fst (Prod.snd (Prod.snd x0))))], [], [True, g27_0 (Prod.fst x0) = Bool.true, True, g28_0 (Prod.fst (Prod.snd x0)) = Bool.true, True, g28_0 (Prod.fst (Prod.snd (Prod.snd x0))) = Bool.true]) := by kernel_rfl
theorem p16_1 (x0 : ByteArray × Int × Int × Unit) : runF tab ext16 false 23 [] 2000 [] tys16 Tryd.f16.results [true, true, false] [.code b16] (entE 0 0 sig16 (x0, ())) (entL sig16 (x0, ())) = some ([Dyn.mk Ty.bool Bool.false], [], [True, g27_0 (Prod.fst x0) = Bool.true, True, g28_0 (Prod.fst (Prod.snd x0)) = Bool.true, True, g28_0 (Prod.fst (Prod.snd (Prod.snd x0))) = Bool.false]) := by kernel_rfl
theorem p16_2 (x0 : ByteArray × Int × Int × Unit) : runF tab ext16 false 23 [] 2000 [] tys16 Tryd.f16.results [true, false, false] [.code b16] (entE 0 0 sig16 (x0, ())) (entL sig16 (x0, ())) = some ([Dyn.mk Ty.bool Bool.false], [], [True, g27_0 (Prod.fst x0) = Bool.true, True, g28_0 (Prod.fst (Prod.snd x0)) = Bool.false, Bool.false = Bool.false]) := by kernel_rfl
theorem p16_3 (x0 : ByteArray × Int × Int × Unit) : runF tab ext16 false 23 [] 2000 [] tys16 Tryd.f16.results [false, false, false] [.code b16] (entE 0 0 sig16 (x0, ())) (entL sig16 (x0, ())) = some ([Dyn.mk Ty.bool Bool.false], [], [True, g27_0 (Prod.fst x0) = Bool.false, Bool.false = Bool.false, Bool.false = Bool.false]) := by kernel_rfl
theorem at16 (x0 : ByteArray × Int × Int × Unit) (h : P16 x0) (w0 : World) (O : List Nat) (q : Nat → Value) : AtV Tryd.prog 16 (PostR [⟨Ty.bool, g16_0 x0⟩] [] [] q w0 O) 23 w0 O q [] [.code b16] (entE 0 0 sig16 (x0, ())) (entL sig16 (x0, ())) := by
  unfold P16 at h
  unfold g16_0
  by_cases b0 : (g27_0 (Prod.fst x0)) = true
  · try simp only [if_pos b0] at h ⊢
    by_cases b1 : (g28_0 (Prod.fst (Prod.snd x0))) = true
    · try simp only [if_pos b1] at h ⊢
      by_cases b2 : (g28_0 (Prod.fst (Prod.snd (Prod.snd x0)))) = true
      · try simp only [if_pos b2] at h ⊢
        exact AtV.fin Tryd.func16 tabOk ext16Ok mixed (p16_0 x0) ⟨trivial, b0, trivial, b1, trivial, b2, trivial⟩
      · try simp only [if_neg b2] at h ⊢
        replace b2 := Bool.eq_false_iff.2 b2
        exact AtV.fin Tryd.func16 tabOk ext16Ok mixed (p16_1 x0) ⟨trivial, b0, trivial, b1, trivial, b2, trivial⟩
    · try simp only [if_neg b1] at h ⊢
      replace b1 := Bool.eq_false_iff.2 b1
      exact AtV.fin Tryd.func16 tabOk ext16Ok mixed (p16_2 x0) ⟨trivial, b0, trivial, b1, rfl, trivial⟩
  · try simp only [if_neg b0] at h ⊢
    replace b0 := Bool.eq_false_iff.2 b0
    exact AtV.fin Tryd.func16 tabOk ext16Ok mixed (p16_3 x0) ⟨trivial, b0, rfl, rfl, trivial⟩

def S16 : Am.Spec := { sig := sig16, pre := fun ⟨x0, _⟩ => P16 x0, res := fun ⟨x0, _⟩ => [⟨Ty.bool, g16_0 x0⟩] }
theorem con16 : Contract Tryd.prog 16 S16 := contract_of Tryd.func16 hb16 (Nat.le_of_ble_eq_true (by kernel_rfl)) (fun ⟨x0, _⟩ h _ w0 O q => at16 x0 h w0 O q)


end Go.Proofs.YtmigieemhbnmpaaDoor

/- The contracts of the library that this program uses, laid at this program. Written by a tool of the kit. -/
set_option linter.unusedVariables false
set_option maxRecDepth 100000
namespace Go.Proofs
open Go.Shelf
def Tryd.lays169_ren : Go.Shelf.Ren := ⟨fun | 169 => 55 | n => n, fun | 70 => 66 | 9 => 9 | 0 => 0 | 72 => 68 | 37 => 51 | 127 => 80 | 3 => 3 | 5 => 5 | n => n, fun | n => n⟩
theorem Tryd.lays169 : Go.Proofs.Lays.n169 Tryd.prog Tryd.lays169_ren := {
  mixed := by kernel_rfl
  f169 := Tryd.func55.trans (congrArg some (by kernel_rfl))
  t0 := Tryd.underlying0
  a0 := Tryd.isAgg0
  z0 := Tryd.sizeOf0
  v0 := Tryd.zeroValue0
  t3 := Tryd.underlying3
  a3 := Tryd.isAgg3
  z3 := Tryd.sizeOf3
  v3 := Tryd.zeroValue3
  t9 := Tryd.underlying9
  a9 := Tryd.isAgg9
  z9 := Tryd.sizeOf9
  v9 := Tryd.zeroValue9
  t37 := Tryd.underlying51
  a37 := Tryd.isAgg51
  z37 := Tryd.sizeOf51
  v37 := Tryd.zeroValue51
  t70 := Tryd.underlying66
  a70 := Tryd.isAgg66
  z70 := Tryd.sizeOf66
  v70 := Tryd.zeroValue66
  t72 := Tryd.underlying68
  a72 := Tryd.isAgg68
  z72 := Tryd.sizeOf68
  v72 := Tryd.zeroValue68
  t127 := Tryd.underlying80
  a127 := Tryd.isAgg80
  z127 := Tryd.sizeOf80
  v127 := Tryd.zeroValue80 }
theorem Tryd.Builder_Extra_169 : Builder.Extra Tryd.prog Tryd.lays169_ren := {
  sizeBuilder := by kernel_rfl
  liesBuilder := by kernel_rfl
  t5 := Tryd.underlying5
  a5 := Tryd.isAgg5
  z5 := Tryd.sizeOf5
  v5 := Tryd.zeroValue5
  infoByte := by kernel_rfl
  cellsByte := by kernel_rfl
  sizeByte := by kernel_rfl
  neB5 := by decide }
open Go.RowKit in theorem Tryd.Builder_String_any_k (B b : Nat) (l : List UInt8) (w : World) (h : Lib.IsBuilderF 68 5 B b (Lib.byteCells l) w) (hBw : B ≤ w.heap.size) :
    Calls Tryd.prog 55 #[.pointer (some ⟨b, 0, none⟩)] w fun e w' => e = .returned (.string ⟨l.toArray⟩) ∧ (Lib.IsBuilderF 68 5 B b (Lib.byteCells l) w' ∧ Below B w w' ∧ Lib.OthersKept 5 (some b) w w') := Any.Builder_String_any_k Tryd.lays169 Tryd.Builder_Extra_169 B b l w h hBw
def Tryd.laysM173_ren : Go.Shelf.Ren := ⟨fun | 173 => 49 | 246 => 56 | 283 => 62 | 284 => 63 | 285 => 64 | 286 => 65 | 129 => 69 | 317 => 68 | 318 => 70 | 319 => 71 | 320 => 72 | 337 => 73 | 338 => 74 | n => n, fun | 2 => 2 | 3 => 3 | 9 => 9 | 4 => 4 | 171 => 82 | 0 => 0 | 53 => 77 | 37 => 51 | 5 => 5 | 173 => 85 | 212 => 91 | 51 => 60 | 20 => 20 | 213 => 92 | 46 => 54 | 232 => 96 | 233 => 97 | n => n, fun | 17 => 3 | 18 => 4 | 19 => 5 | n => n⟩
theorem Tryd.laysM173 : Go.Proofs.LaysM.n173 Tryd.prog Tryd.laysM173_ren := {
  mixed := by kernel_rfl
  f129 := Tryd.func69.trans (congrArg some (by kernel_rfl))
  f173 := Tryd.func49.trans (congrArg some (by kernel_rfl))
  f246 := Tryd.func56.trans (congrArg some (by kernel_rfl))
  f283 := Tryd.func62.trans (congrArg some (by kernel_rfl))
  f284 := Tryd.func63.trans (congrArg some (by kernel_rfl))
  f285 := Tryd.func64.trans (congrArg some (by kernel_rfl))
  f286 := Tryd.func65.trans (congrArg some (by kernel_rfl))
  f317 := Tryd.func68.trans (congrArg some (by kernel_rfl))
  f318 := Tryd.func70.trans (congrArg some (by kernel_rfl))
  f319 := Tryd.func71.trans (congrArg some (by kernel_rfl))
  f320 := Tryd.func72.trans (congrArg some (by kernel_rfl))
  f337 := Tryd.func73.trans (congrArg some (by kernel_rfl))
  f338 := Tryd.func74.trans (congrArg some (by kernel_rfl))
  t0 := Tryd.underlying0
  a0 := Tryd.isAgg0
  z0 := Tryd.sizeOf0
  v0 := Tryd.zeroValue0
  t2 := Tryd.underlying2
  a2 := Tryd.isAgg2
  z2 := Tryd.sizeOf2
  v2 := Tryd.zeroValue2
  t3 := Tryd.underlying3
  a3 := Tryd.isAgg3
  z3 := Tryd.sizeOf3
  v3 := Tryd.zeroValue3
  t4 := Tryd.underlying4
  a4 := Tryd.isAgg4
  z4 := Tryd.sizeOf4
  v4 := Tryd.zeroValue4
  t5 := Tryd.underlying5
  a5 := Tryd.isAgg5
  z5 := Tryd.sizeOf5
  v5 := Tryd.zeroValue5
  t9 := Tryd.underlying9
  a9 := Tryd.isAgg9
  z9 := Tryd.sizeOf9
  v9 := Tryd.zeroValue9
  t20 := Tryd.underlying20
  a20 := Tryd.isAgg20
  z20 := Tryd.sizeOf20
  v20 := Tryd.zeroValue20
  t37 := Tryd.underlying51
  a37 := Tryd.isAgg51
  z37 := Tryd.sizeOf51
  v37 := Tryd.zeroValue51
  t46 := Tryd.underlying54
  a46 := Tryd.isAgg54
  z46 := Tryd.sizeOf54
  v46 := Tryd.zeroValue54
  t51 := Tryd.underlying60
  a51 := Tryd.isAgg60
  z51 := Tryd.sizeOf60
  v51 := Tryd.zeroValue60
  t53 := Tryd.underlying77
  a53 := Tryd.isAgg77
  z53 := Tryd.sizeOf77
  v53 := Tryd.zeroValue77
  t171 := Tryd.underlying82
  a171 := Tryd.isAgg82
  z171 := Tryd.sizeOf82
  v171 := Tryd.zeroValue82
  t173 := Tryd.underlying85
  a173 := Tryd.isAgg85
  z173 := Tryd.sizeOf85
  v173 := Tryd.zeroValue85
  t212 := Tryd.underlying91
  a212 := Tryd.isAgg91
  z212 := Tryd.sizeOf91
  v212 := Tryd.zeroValue91
  t213 := Tryd.underlying92
  a213 := Tryd.isAgg92
  z213 := Tryd.sizeOf92
  t232 := Tryd.underlying96
  a232 := Tryd.isAgg96
  z232 := Tryd.sizeOf96
  v232 := Tryd.zeroValue96
  t233 := Tryd.underlying97
  a233 := Tryd.isAgg97
  z233 := Tryd.sizeOf97
  v233 := Tryd.zeroValue97
  g17 := by kernel_rfl
  g18 := by kernel_rfl
  g19 := by kernel_rfl
  i0 := by kernel_rfl
  i2 := by kernel_rfl
  i3 := by kernel_rfl
  i4 := by kernel_rfl
  i5 := by kernel_rfl
  i9 := by kernel_rfl
  i20 := by kernel_rfl
  i37 := by kernel_rfl
  i46 := by kernel_rfl
  i51 := by kernel_rfl
  i53 := by kernel_rfl
  i171 := by kernel_rfl
  i173 := by kernel_rfl
  i212 := by kernel_rfl
  i232 := by kernel_rfl
  i233 := by kernel_rfl
  m17 := by kernel_rfl
  m18 := by kernel_rfl
  m19 := by kernel_rfl }
open Go.RowKit Go.Sort Go.Lib in theorem Tryd.strconv_FormatInt_10 (n : Int) (h0 : -9223372036854775808 ≤ n) (h1 : n ≤ 9223372036854775807) (w : World) (htab : Lib.TabIs Tryd.prog w "internal/strconv.uint64pow10" .u64 Lib.pow10Tab) :
    Calls Tryd.prog 49 #[.int .i64 n, .int .i64 10] w fun e w' => e = .returned (.string ⟨(Lib.itoa n).toArray⟩) ∧ ∃ k os, w' = grow (w.drewN k) os := Any.strconv_FormatInt_10 Tryd.laysM173 n h0 h1 w htab
def Tryd.lays145_ren : Go.Shelf.Ren := ⟨fun | 145 => 24 | 220 => 37 | 219 => 36 | 217 => 41 | 225 => 42 | 224 => 43 | 267 => 44 | 266 => 47 | 314 => 48 | n => n, fun | 9 => 9 | 4 => 4 | 59 => 43 | 3 => 3 | 5 => 5 | 46 => 54 | 146 => 61 | 51 => 60 | n => n, fun | 1 => 0 | n => n⟩
theorem Tryd.lays145 : Go.Proofs.Lays.n145 Tryd.prog Tryd.lays145_ren := {
  mixed := by kernel_rfl
  f145 := Tryd.func24.trans (congrArg some (by kernel_rfl))
  f217 := Tryd.func41.trans (congrArg some (by kernel_rfl))
  f219 := Tryd.func36.trans (congrArg some (by kernel_rfl))
  f220 := Tryd.func37.trans (congrArg some (by kernel_rfl))
  f224 := Tryd.func43.trans (congrArg some (by kernel_rfl))
  f225 := Tryd.func42.trans (congrArg some (by kernel_rfl))
  f266 := Tryd.func47.trans (congrArg some (by kernel_rfl))
  f267 := Tryd.func44.trans (congrArg some (by kernel_rfl))
  f314 := Tryd.func48.trans (congrArg some (by kernel_rfl))
  t3 := Tryd.underlying3
  a3 := Tryd.isAgg3
  z3 := Tryd.sizeOf3
  v3 := Tryd.zeroValue3
  t4 := Tryd.underlying4
  a4 := Tryd.isAgg4
  z4 := Tryd.sizeOf4
  v4 := Tryd.zeroValue4
  t5 := Tryd.underlying5
  a5 := Tryd.isAgg5
  z5 := Tryd.sizeOf5
  v5 := Tryd.zeroValue5
  t9 := Tryd.underlying9
  a9 := Tryd.isAgg9
  z9 := Tryd.sizeOf9
  v9 := Tryd.zeroValue9
  t46 := Tryd.underlying54
  a46 := Tryd.isAgg54
  z46 := Tryd.sizeOf54
  v46 := Tryd.zeroValue54
  t51 := Tryd.underlying60
  a51 := Tryd.isAgg60
  z51 := Tryd.sizeOf60
  v51 := Tryd.zeroValue60
  t59 := Tryd.underlying43
  a59 := Tryd.isAgg43
  z59 := Tryd.sizeOf43
  v59 := Tryd.zeroValue43
  t146 := Tryd.underlying61
  a146 := Tryd.isAgg61
  z146 := Tryd.sizeOf61
  v146 := Tryd.zeroValue61
  g1 := by kernel_rfl }
open Go.RowKit Go.Lib in theorem Tryd.strings_Cut (s sep : ByteArray) (m : Int) (w : World) (hs : s.size < 4294967281) (hm : w.cell? ⟨0, 0, none⟩ = some (.int .i64 m)) :
    Calls Tryd.prog 24 #[.string s, .string sep] w fun e w' => e = .returned (.tuple #[.string ⟨(Lib.cut s.data.toList sep.data.toList).1.toArray⟩, .string ⟨(Lib.cut s.data.toList sep.data.toList).2.1.toArray⟩, .bool (Lib.cut s.data.toList sep.data.toList).2.2]) ∧ ∃ n, w' = w.drewN n := Any.strings_Cut Tryd.lays145 s sep m w hs hm
def Tryd.lays99_ren : Go.Shelf.Ren := ⟨fun | 99 => 51 | 206 => 59 | n => n, fun | 9 => 9 | 4 => 4 | 3 => 3 | n => n, fun | n => n⟩
theorem Tryd.lays99 : Go.Proofs.Lays.n99 Tryd.prog Tryd.lays99_ren := {
  mixed := by kernel_rfl
  f99 := Tryd.func51.trans (congrArg some (by kernel_rfl))
  f206 := Tryd.func59.trans (congrArg some (by kernel_rfl))
  t3 := Tryd.underlying3
  a3 := Tryd.isAgg3
  z3 := Tryd.sizeOf3
  v3 := Tryd.zeroValue3
  t4 := Tryd.underlying4
  a4 := Tryd.isAgg4
  z4 := Tryd.sizeOf4
  v4 := Tryd.zeroValue4
  t9 := Tryd.underlying9
  a9 := Tryd.isAgg9
  z9 := Tryd.sizeOf9
  v9 := Tryd.zeroValue9 }
open Go.RowKit Go.Lib in theorem Tryd.strings_HasPrefix (s p : ByteArray) (w : World) :
    Calls Tryd.prog 51 #[.string s, .string p] w fun e w' => e = .returned (.bool (Lib.hasPrefix s.data.toList p.data.toList)) ∧ w' = w := Any.strings_HasPrefix Tryd.lays99 s p w
def Tryd.lays146_ren : Go.Shelf.Ren := ⟨fun | 146 => 8 | 221 => 14 | 268 => 21 | 138 => 22 | 143 => 23 | 195 => 33 | 197 => 34 | 218 => 35 | 219 => 36 | 260 => 40 | 217 => 41 | 225 => 42 | 224 => 43 | 267 => 44 | 266 => 47 | 314 => 48 | n => n, fun | 9 => 9 | 31 => 28 | 3 => 3 | 4 => 4 | 0 => 0 | 105 => 48 | 21 => 21 | 5 => 5 | 46 => 54 | 119 => 56 | 139 => 59 | 138 => 58 | 146 => 61 | 51 => 60 | n => n, fun | 1 => 0 | 3 => 1 | 4 => 2 | n => n⟩
theorem Tryd.lays146 : Go.Proofs.Lays.n146 Tryd.prog Tryd.lays146_ren := {
  mixed := by kernel_rfl
  f138 := Tryd.func22.trans (congrArg some (by kernel_rfl))
  f143 := Tryd.func23.trans (congrArg some (by kernel_rfl))
  f146 := Tryd.func8.trans (congrArg some (by kernel_rfl))
  f195 := Tryd.func33.trans (congrArg some (by kernel_rfl))
  f197 := Tryd.func34.trans (congrArg some (by kernel_rfl))
  f217 := Tryd.func41.trans (congrArg some (by kernel_rfl))
  f218 := Tryd.func35.trans (congrArg some (by kernel_rfl))
  f219 := Tryd.func36.trans (congrArg some (by kernel_rfl))
  f221 := Tryd.func14.trans (congrArg some (by kernel_rfl))
  f224 := Tryd.func43.trans (congrArg some (by kernel_rfl))
  f225 := Tryd.func42.trans (congrArg some (by kernel_rfl))
  f260 := Tryd.func40.trans (congrArg some (by kernel_rfl))
  f266 := Tryd.func47.trans (congrArg some (by kernel_rfl))
  f267 := Tryd.func44.trans (congrArg some (by kernel_rfl))
  f268 := Tryd.func21.trans (congrArg some (by kernel_rfl))
  f314 := Tryd.func48.trans (congrArg some (by kernel_rfl))
  t0 := Tryd.underlying0
  a0 := Tryd.isAgg0
  z0 := Tryd.sizeOf0
  v0 := Tryd.zeroValue0
  t3 := Tryd.underlying3
  a3 := Tryd.isAgg3
  z3 := Tryd.sizeOf3
  v3 := Tryd.zeroValue3
  t4 := Tryd.underlying4
  a4 := Tryd.isAgg4
  z4 := Tryd.sizeOf4
  v4 := Tryd.zeroValue4
  t5 := Tryd.underlying5
  a5 := Tryd.isAgg5
  z5 := Tryd.sizeOf5
  v5 := Tryd.zeroValue5
  t9 := Tryd.underlying9
  a9 := Tryd.isAgg9
  z9 := Tryd.sizeOf9
  v9 := Tryd.zeroValue9
  t21 := Tryd.underlying21
  a21 := Tryd.isAgg21
  z21 := Tryd.sizeOf21
  v21 := Tryd.zeroValue21
  t31 := Tryd.underlying28
  a31 := Tryd.isAgg28
  z31 := Tryd.sizeOf28
  v31 := Tryd.zeroValue28
  t46 := Tryd.underlying54
  a46 := Tryd.isAgg54
  z46 := Tryd.sizeOf54
  v46 := Tryd.zeroValue54
  t51 := Tryd.underlying60
  a51 := Tryd.isAgg60
  z51 := Tryd.sizeOf60
  v51 := Tryd.zeroValue60
  t105 := Tryd.underlying48
  a105 := Tryd.isAgg48
  z105 := Tryd.sizeOf48
  v105 := Tryd.zeroValue48
  t119 := Tryd.underlying56
  a119 := Tryd.isAgg56
  z119 := Tryd.sizeOf56
  t138 := Tryd.underlying58
  a138 := Tryd.isAgg58
  z138 := Tryd.sizeOf58
  v138 := Tryd.zeroValue58
  t139 := Tryd.underlying59
  a139 := Tryd.isAgg59
  z139 := Tryd.sizeOf59
  v139 := Tryd.zeroValue59
  t146 := Tryd.underlying61
  a146 := Tryd.isAgg61
  z146 := Tryd.sizeOf61
  v146 := Tryd.zeroValue61
  g1 := by kernel_rfl
  g3 := by kernel_rfl
  g4 := by kernel_rfl }
open Go.RowKit Go.Lib in theorem Tryd.strings_Split (s sep : ByteArray) (m : Int) (w : World) (hs : s.size < 4294967281) (hm : w.cell? ⟨0, 0, none⟩ = some (.int .i64 m)) (h1 : 1 ≤ sep.size) :
    Calls Tryd.prog 8 #[.string s, .string sep] w fun e w' =>
      e = .returned (.slice (some ⟨w.heap.size, 0, none⟩) (Lib.countB s sep + 1) (Lib.countB s sep + 1)) ∧ w' = w.alloc (.cells ((Lib.splitB sep 0 (Lib.countB s sep) s).map Value.string).toArray 9) := Any.strings_Split Tryd.lays146 (by kernel_rfl) s sep m w hs hm h1
def Tryd.lays105_ren : Go.Shelf.Ren := ⟨fun | 105 => 46 | 212 => 50 | 99 => 51 | 165 => 52 | 166 => 53 | 170 => 54 | 169 => 55 | 263 => 57 | 264 => 58 | 206 => 59 | 240 => 60 | 241 => 61 | 276 => 66 | 277 => 67 | n => n, fun | 9 => 9 | 3 => 3 | 4 => 4 | 20 => 20 | 0 => 0 | 46 => 54 | 109 => 63 | 5 => 5 | 72 => 68 | 76 => 72 | 51 => 60 | 146 => 61 | 53 => 77 | 148 => 78 | 70 => 66 | 37 => 51 | 75 => 71 | 127 => 80 | 164 => 87 | 80 => 75 | n => n, fun | n => n⟩
theorem Tryd.lays105 : Go.Proofs.Lays.n105 Tryd.prog Tryd.lays105_ren := {
  mixed := by kernel_rfl
  f99 := Tryd.func51.trans (congrArg some (by kernel_rfl))
  f105 := Tryd.func46.trans (congrArg some (by kernel_rfl))
  f165 := Tryd.func52.trans (congrArg some (by kernel_rfl))
  f166 := Tryd.func53.trans (congrArg some (by kernel_rfl))
  f169 := Tryd.func55.trans (congrArg some (by kernel_rfl))
  f170 := Tryd.func54.trans (congrArg some (by kernel_rfl))
  f206 := Tryd.func59.trans (congrArg some (by kernel_rfl))
  f212 := Tryd.func50.trans (congrArg some (by kernel_rfl))
  f240 := Tryd.func60.trans (congrArg some (by kernel_rfl))
  f241 := Tryd.func61.trans (congrArg some (by kernel_rfl))
  f263 := Tryd.func57.trans (congrArg some (by kernel_rfl))
  f264 := Tryd.func58.trans (congrArg some (by kernel_rfl))
  f276 := Tryd.func66.trans (congrArg some (by kernel_rfl))
  f277 := Tryd.func67.trans (congrArg some (by kernel_rfl))
  t0 := Tryd.underlying0
  a0 := Tryd.isAgg0
  z0 := Tryd.sizeOf0
  v0 := Tryd.zeroValue0
  t3 := Tryd.underlying3
  a3 := Tryd.isAgg3
  z3 := Tryd.sizeOf3
  v3 := Tryd.zeroValue3
  t4 := Tryd.underlying4
  a4 := Tryd.isAgg4
  z4 := Tryd.sizeOf4
  v4 := Tryd.zeroValue4
  t5 := Tryd.underlying5
  a5 := Tryd.isAgg5
  z5 := Tryd.sizeOf5
  v5 := Tryd.zeroValue5
  t9 := Tryd.underlying9
  a9 := Tryd.isAgg9
  z9 := Tryd.sizeOf9
  v9 := Tryd.zeroValue9
  t20 := Tryd.underlying20
  a20 := Tryd.isAgg20
  z20 := Tryd.sizeOf20
  v20 := Tryd.zeroValue20
  t37 := Tryd.underlying51
  a37 := Tryd.isAgg51
  z37 := Tryd.sizeOf51
  v37 := Tryd.zeroValue51
  t46 := Tryd.underlying54
  a46 := Tryd.isAgg54
  z46 := Tryd.sizeOf54
  v46 := Tryd.zeroValue54
  t51 := Tryd.underlying60
  a51 := Tryd.isAgg60
  z51 := Tryd.sizeOf60
  v51 := Tryd.zeroValue60
  t53 := Tryd.underlying77
  a53 := Tryd.isAgg77
  z53 := Tryd.sizeOf77
  v53 := Tryd.zeroValue77
  t70 := Tryd.underlying66
  a70 := Tryd.isAgg66
  z70 := Tryd.sizeOf66
  v70 := Tryd.zeroValue66
  t72 := Tryd.underlying68
  a72 := Tryd.isAgg68
  z72 := Tryd.sizeOf68
  v72 := Tryd.zeroValue68
  t75 := Tryd.underlying71
  a75 := Tryd.isAgg71
  z75 := Tryd.sizeOf71
  v75 := Tryd.zeroValue71
  t76 := Tryd.underlying72
  a76 := Tryd.isAgg72
  z76 := Tryd.sizeOf72
  v76 := Tryd.zeroValue72
  t109 := Tryd.underlying63
  a109 := Tryd.isAgg63
  z109 := Tryd.sizeOf63
  v109 := Tryd.zeroValue63
  t127 := Tryd.underlying80
  a127 := Tryd.isAgg80
  z127 := Tryd.sizeOf80
  v127 := Tryd.zeroValue80
  t146 := Tryd.underlying61
  a146 := Tryd.isAgg61
  z146 := Tryd.sizeOf61
  v146 := Tryd.zeroValue61
  t148 := Tryd.underlying78
  a148 := Tryd.isAgg78
  z148 := Tryd.sizeOf78
  v148 := Tryd.zeroValue78
  t164 := Tryd.underlying87
  a164 := Tryd.isAgg87
  z164 := Tryd.sizeOf87
  v164 := Tryd.zeroValue87 }
theorem Tryd.Builder_Extra_105 : Builder.Extra Tryd.prog Tryd.lays105_ren := {
  sizeBuilder := by kernel_rfl
  liesBuilder := by kernel_rfl
  t5 := Tryd.underlying5
  a5 := Tryd.isAgg5
  z5 := Tryd.sizeOf5
  v5 := Tryd.zeroValue5
  infoByte := by kernel_rfl
  cellsByte := by kernel_rfl
  sizeByte := by kernel_rfl
  neB5 := by decide }
open Go.RowKit Go.Lib in theorem Tryd.strings_Repeat (s : ByteArray) (c : Nat) (w : World) (hc : c ≤ 9223372036854775807) (hlen : s.size * c ≤ 140737488355328) :
    Calls Tryd.prog 46 #[.string s, .int .i64 c] w fun e w' => e = .returned (.string ⟨(Lib.repeatL s.data.toList c).toArray⟩) ∧ Below w.heap.size w w' := Any.strings_Repeat Tryd.lays105 Tryd.Builder_Extra_105 s c w hc hlen
end Go.Proofs

/- Function 49 (strconv.FormatInt): its contract, off what is known of the library. -/
set_option linter.unusedVariables false
set_option linter.unusedSimpArgs false
set_option maxRecDepth 100000
namespace Go.Proofs.YtmigieemhbnmpaaDoor
open Go Go.Am Go.Proofs

def sig49 : List AT := [AT.v (Ty.int .i64), AT.v (Ty.int .i64)]
def g49_0 (x0 x1 : Int) : ByteArray := numB x0
def P49 (x0 x1 : Int) : Prop := x1 = 10
def S49 : Am.Spec := { sig := sig49, pre := fun ⟨x0, x1, _⟩ => P49 x0 x1, res := fun ⟨x0, x1, _⟩ => [⟨Ty.str, g49_0 x0 x1⟩] }
theorem con49 : Contract Tryd.prog 49 S49 := contract_flat rfl fun w ⟨x0, x1, _⟩ vs bss hg hp hw ha => by
  obtain ⟨v0, s0, _, _, rfl, _, ⟨_, rfl, hi⟩, v1, s1, _, _, rfl, _, ⟨_, rfl, _⟩, rfl, _⟩ := ha
  obtain rfl : x1 = 10 := hp
  have hi : InR .i64 x0 := hi
  rw [i64_iff] at hi
  refine ⟨fun d hd => ?_, ?_⟩
  · rw [List.mem_singleton.1 hd]
    refine ⟨rfl, ?_⟩
    show (numB x0).size ≤ maxLen
    have := numB_size x0 hi.1 hi.2
    unfold maxLen; omega
  · refine (Tryd.strconv_FormatInt_10 x0 hi.1 hi.2 w (pow10G hg)).mono ?_
    rintro e w' ⟨rfl, n, os, rfl⟩
    exact ⟨rfl, kept_grow _ _ _⟩

end Go.Proofs.YtmigieemhbnmpaaDoor

/- Function 45 (impl.Decimal): its runs between cut points. Written by a program of this repo (gen). -/
set_option linter.unusedVariables false
set_option linter.unusedSimpArgs false
set_option maxRecDepth 100000
namespace Go.Proofs.YtmigieemhbnmpaaDoor
open Go Go.Am Go.Proofs
def ext45 : Ext := [(49, S49)]
theorem call45_49 : Callable Tryd.prog 49 := ⟨Tryd.f49, Tryd.func49, by kernel_rfl, by kernel_rfl⟩
theorem ext45Ok : ExtOk Tryd.prog ext45 := ⟨⟨call45_49, con49⟩, trivial⟩
/-! Function 45. -/
noncomputable def b45 : Code := bodyOf Tryd.f45
theorem hb45 : Tryd.f45.body = some b45 := by kernel_rfl
def sig45 : List AT := [AT.v (Ty.int IntKind.i64)]
def tys45 : List Ty := [Ty.str]
def P45 (x0 : Int) : Prop := ((P49 x0 10) ∧ True)
def g45_0 (x0 : Int) : ByteArray := g49_0 x0 10
theorem p45_0 (x0 : Int) : runF tab ext45 false 5 [] 2000 [] tys45 Tryd.f45.results [] [.code b45] (entE 0 0 sig45 (x0, ())) (entL sig45 (x0, ())) = some ([Dyn.mk Ty.str (g49_0 x0 10)], [], [P49 x0 10]) := by kernel_rfl
theorem at45 (x0 : Int) (h : P45 x0) (w0 : World) (O : List Nat) (q : Nat → Value) : AtV Tryd.prog 45 (PostR [⟨Ty.str, g45_0 x0⟩] [] [] q w0 O) 5 w0 O q [] [.code b45] (entE 0 0 sig45 (x0, ())) (entL sig45 (x0, ())) := by
  unfold P45 at h
  unfold g45_0
  obtain ⟨s0, h⟩ := h
  exact AtV.fin Tryd.func45 tabOk ext45Ok mixed (p45_0 x0) ⟨s0, trivial⟩

def S45 : Am.Spec := { sig := sig45, pre := fun ⟨x0, _⟩ => P45 x0, res := fun ⟨x0, _⟩ => [⟨Ty.str, g45_0 x0⟩] }
theorem con45 : Contract Tryd.prog 45 S45 := contract_of Tryd.func45 hb45 (Nat.le_of_ble_eq_true (by kernel_rfl)) (fun ⟨x0, _⟩ h _ w0 O q => at45 x0 h w0 O q)


end Go.Proofs.YtmigieemhbnmpaaDoor

/- Function 46 (strings.Repeat): its contract, off what is known of the library. -/
set_option linter.unusedVariables false
set_option linter.unusedSimpArgs false
set_option maxRecDepth 100000
namespace Go.Proofs.YtmigieemhbnmpaaDoor
open Go Go.Am Go.Proofs

def sig46 : List AT := [AT.v Ty.str, AT.v (Ty.int .i64)]
def g46_0 (x0 : ByteArray) (x1 : Int) : ByteArray := ⟨(Lib.repeatL x0.data.toList x1.toNat).toArray⟩
def P46 (x0 : ByteArray) (x1 : Int) : Prop := 0 ≤ x1 ∧ (x0.size : Int) * x1 ≤ 140737488355328
def S46 : Am.Spec := { sig := sig46, pre := fun ⟨x0, x1, _⟩ => P46 x0 x1, res := fun ⟨x0, x1, _⟩ => [⟨Ty.str, g46_0 x0 x1⟩] }
theorem con46 : Contract Tryd.prog 46 S46 := contract_flat rfl fun w ⟨x0, x1, _⟩ vs bss hg hp hw ha => by
  obtain ⟨v0, s0, _, _, rfl, _, ⟨_, rfl, _⟩, v1, s1, _, _, rfl, _, ⟨_, rfl, _⟩, rfl, _⟩ := ha
  obtain ⟨h0, h1⟩ := hp
  obtain ⟨c, rfl⟩ : ∃ c : Nat, x1 = (c : Int) := Int.eq_ofNat_of_zero_le h0
  have hi : InR .i64 (c : Int) := hw.2.1
  rw [i64_iff] at hi
  have hm : x0.size * c ≤ 140737488355328 := by
    have : ((x0.size * c : Nat) : Int) = (x0.size : Int) * (c : Int) := Int.natCast_mul _ _
    omega
  refine ⟨fun d hd => ?_, ?_⟩
  · rw [List.mem_singleton.1 hd]
    refine ⟨rfl, ?_⟩
    show (ByteArray.mk (Lib.repeatL x0.data.toList c).toArray).size ≤ maxLen
    have : (ByteArray.mk (Lib.repeatL x0.data.toList c).toArray).size = c * x0.data.toList.length := by
      show (Lib.repeatL x0.data.toList c).toArray.size = _
      rw [List.size_toArray, Lib.repeatL_length]
    rw [this, Nat.mul_comm]
    have e : x0.data.toList.length = x0.size := rfl
    rw [e]
    unfold maxLen
    omega
  · refine (Tryd.strings_Repeat x0 c w (by omega) hm).mono ?_
    rintro e w' ⟨rfl, hb⟩
    exact ⟨rfl, Kept.of_below hb⟩

end Go.Proofs.YtmigieemhbnmpaaDoor

/- Function 39 (impl.padded): its runs between cut points. Written by a program of this repo (gen). -/
set_option linter.unusedVariables false
set_option linter.unusedSimpArgs false
set_option maxRecDepth 100000
namespace Go.Proofs.YtmigieemhbnmpaaDoor
open Go Go.Am Go.Proofs
def ext39 : Ext := [(45, S45), (46, S46)]
theorem call39_45 : Callable Tryd.prog 45 := ⟨Tryd.f45, Tryd.func45, by kernel_rfl, by kernel_rfl⟩
theorem call39_46 : Callable Tryd.prog 46 := ⟨Tryd.f46, Tryd.func46, by kernel_rfl, by kernel_rfl⟩
theorem ext39Ok : ExtOk Tryd.prog ext39 := ⟨⟨call39_45, con45⟩, ⟨call39_46, con46⟩, trivial⟩
/-! Function 39. -/
noncomputable def b39 : Code := bodyOf Tryd.f39
theorem hb39 : Tryd.f39.body = some b39 := by kernel_rfl
def sig39 : List AT := [AT.v (Ty.int IntKind.i64), AT.v (Ty.int IntKind.i64)]
def tys39 : List Ty := [Ty.str]
def P39 (x0 : Int) (x1 : Int) : Prop := ((P45 x0) ∧ ((InR IntKind.i64 (x1 - (↑(ByteArray.size (g45_0 x0)) : Int))) ∧ ((P46 (ByteArray.mk #[48]) (if 0 < x1 - (↑(ByteArray.size (g45_0 x0)) : Int) then x1 - (↑(ByteArray.size (g45_0 x0)) : Int) else 0)) ∧ ((ByteArray.size (g46_0 (ByteArray.mk #[48]) (if 0 < x1 - (↑(ByteArray.size (g45_0 x0)) : Int) then x1 - (↑(ByteArray.size (g45_0 x0)) : Int) else 0)) + ByteArray.size (g45_0 x0) ≤ 9223372036854775807) ∧ True))))
def g39_0 (x0 : Int) (x1 : Int) : ByteArray := g46_0 (ByteArray.mk #[48]) (if 0 < x1 - (↑(ByteArray.size (g45_0 x0)) : Int) then x1 - (↑(ByteArray.size (g45_0 x0)) : Int) else 0) ++ g45_0 x0
theorem p39_0 (x0 : Int) (x1 : Int) : runF tab ext39 false 16 [] 2000 [] tys39 Tryd.f39.results [] [.code b39] (entE 0 0 sig39 (x0, x1, ())) (entL sig39 (x0, x1, ())) = some ([Dyn.mk Ty.str (g46_0 (ByteArray.mk #[48]) (if 0 < x1 - (↑(ByteArray.size (g45_0 x0)) : Int) then x1 - (↑(ByteArray.size (g45_0 x0)) : Int) else 0) ++ g45_0 x0)], [], [P45 x0, InR IntKind.i64 (x1 - (↑(ByteArray.size (g45_0 x0)) : Int)), P46 (ByteArray.mk #[48]) (if 0 < x1 - (↑(ByteArray.size (g45_0 x0)) : Int) then x1 - (↑(ByteArray.size (g45_0 x0)) : Int) else 0), ByteArray.size (g46_0 (ByteArray.mk #[48]) (if 0 < x1 - (↑(ByteArray.size (g45_0 x0)) : Int) then x1 - (↑(ByteArray.size (g45_0 x0)) : Int) else 0)) + ByteArray.size (g45_0 x0) ≤ 9223372036854775807]) := by kernel_rfl
theorem at39 (x0 : Int) (x1 : Int) (h : P39 x0 x1) (w0 : World) (O : List Nat) (q : Nat → Value) : AtV Tryd.prog 39 (PostR [⟨Ty.str, g39_0 x0 x1⟩] [] [] q w0 O) 16 w0 O q [] [.code b39] (entE 0 0 sig39 (x0, x1, ())) (entL sig39 (x0, x1, ())) := by
  unfold P39 at h
  unfold g39_0
  obtain ⟨s0, h⟩ := h
  obtain ⟨s1, h⟩ := h
  obtain ⟨s2, h⟩ := h
  obtain ⟨s3, h⟩ := h
  exact AtV.fin Tryd.func39 tabOk ext39Ok mixed (p39_0 x0 x1) ⟨s0, s1, s2, s3, trivial⟩

def S39 : Am.Spec := { sig := sig39, pre := fun ⟨x0, x1, _⟩ => P39 x0 x1, res := fun ⟨x0, x1, _⟩ => [⟨Ty.str, g39_0 x0 x1⟩] }
theorem con39 : Contract Tryd.prog 39 S39 := contract_of Tryd.func39 hb39 (Nat.le_of_ble_eq_true (by kernel_rfl)) (fun ⟨x0, x1, _⟩ h _ w0 O q => at39 x0 x1 h w0 O q)


end Go.Proofs.YtmigieemhbnmpaaDoor

/- Function 26 (impl.ClockText): its runs between cut points. Written by a program of this repo (gen). -/
set_option linter.unusedVariables false
set_option linter.unusedSimpArgs false
set_option maxRecDepth 100000
namespace Go.Proofs.YtmigieemhbnmpaaDoor
open Go Go.Am Go.Proofs
def ext26 : Ext := [(38, S38), (39, S39)]
theorem call26_38 : Callable Tryd.prog 38 := ⟨Tryd.f38, Tryd.func38, by kernel_rfl, by kernel_rfl⟩
theorem call26_39 : Callable Tryd.prog 39 := ⟨Tryd.f39, Tryd.func39, by kernel_rfl, by kernel_rfl⟩
theorem ext26Ok : ExtOk Tryd.prog ext26 := ⟨⟨call26_38, con38⟩, ⟨call26_39, con39⟩, trivial⟩
/-! Function 26. -/
noncomputable def b26 : Code := bodyOf Tryd.f26
theorem hb26 : Tryd.f26.body = some b26 := by kernel_rfl
def sig26 : List AT := [AT.v (Ty.int IntKind.i64)]
def tys26 : List Ty := [Ty.str]
def P26 (x0 : Int) : Prop := (if (!g38_0 x0 0 1439) = true then True else ((InR IntKind.i64 (Int.tdiv x0 60)) ∧ ((P39 (Int.tdiv x0 60) 2) ∧ ((ByteArray.size (g39_0 (Int.tdiv x0 60) 2) + 1 ≤ 9223372036854775807) ∧ ((InR IntKind.i64 (Int.tmod x0 60)) ∧ ((P39 (Int.tmod x0 60) 2) ∧ ((ByteArray.size (g39_0 (Int.tdiv x0 60) 2 ++ ByteArray.mk #[58]) + ByteArray.size (g39_0 (Int.tmod x0 60) 2) ≤ 9223372036854775807) ∧ True)))))))
def g26_0 (x0 : Int) : ByteArray := (if (!g38_0 x0 0 1439) = true then ByteArray.mk #[] else g39_0 (Int.tdiv x0 60) 2 ++ ByteArray.mk #[58] ++ g39_0 (Int.tmod x0 60) 2)
theorem p26_0 (x0 : Int) : runF tab ext26 false 14 [] 2000 [] tys26 Tryd.f26.results [true] [.code b26] (entE 0 0 sig26 (x0, ())) (entL sig26 (x0, ())) = some ([Dyn.mk Ty.str (ByteArray.mk #[])], [], [True, (!g38_0 x0 0 1439) = Bool.true]) := by kernel_rfl
theorem p26_1 (x0 : Int) : runF tab ext26 false 14 [] 2000 [] tys26 Tryd.f26.results [false] [.code b26] (entE 0 0 sig26 (x0, ())) (entL sig26 (x0, ())) = some ([Dyn.mk Ty.str (g39_0 (Int.tdiv x0 60) 2 ++ ByteArray.mk #[58] ++ g39_0 (Int.tmod x0 60) 2)], [], [True, (!g38_0 x0 0 1439) = Bool.false, (60 : Int) ≠ (0 : Int), InR IntKind.i64 (Int.tdiv x0 60), P39 (Int.tdiv x0 60) 2, ByteArray.size (g39_0 (Int.tdiv x0 60) 2) + 1 ≤ 9223372036854775807, (60 : Int) ≠ (0 : Int), InR IntKind.i64 (Int.tmod x0 60), P39 (Int.tmod x0 60) 2, ByteArray.size (g39_0 (Int.tdiv x0 60) 2 ++ ByteArray.mk #[58]) + ByteArray.size (g39_0 (Int.tmod x0 60) 2) ≤ 9223372036854775807]) := by kernel_rfl
theorem at26 (x0 : Int) (h : P26 x0) (w0 : World) (O : List Nat) (q : Nat → Value) : AtV Tryd.prog 26 (PostR [⟨Ty.str, g26_0 x0⟩] [] [] q w0 O) 14 w0 O q [] [.code b26] (entE 0 0 sig26 (x0, ())) (entL sig26 (x0, ())) := by
  unfold P26 at h
  unfold g26_0
  by_cases b0 : (!g38_0 x0 0 1439) = true
  · try simp only [if_pos b0] at h ⊢
    exact AtV.fin Tryd.func26 tabOk ext26Ok mixed (p26_0 x0) ⟨trivial, b0, trivial⟩
  · try simp only [if_neg b0] at h ⊢
    replace b0 := Bool.eq_false_iff.2 b0
    obtain ⟨s0, h⟩ := h
    obtain ⟨s1, h⟩ := h
    obtain ⟨s2, h⟩ := h
    obtain ⟨s3, h⟩ := h
    obtain ⟨s4, h⟩ := h
    obtain ⟨s5, h⟩ := h
    exact AtV.fin Tryd.func26 tabOk ext26Ok mixed (p26_1 x0) ⟨trivial, b0, (by decide), s0, s1, s2, (by decide), s3, s4, s5, trivial⟩

def S26 : Am.Spec := { sig := sig26, pre := fun ⟨x0, _⟩ => P26 x0, res := fun ⟨x0, _⟩ => [⟨Ty.str, g26_0 x0⟩] }
theorem con26 : Contract Tryd.prog 26 S26 := contract_of Tryd.func26 hb26 (Nat.le_of_ble_eq_true (by kernel_rfl)) (fun ⟨x0, _⟩ h _ w0 O q => at26 x0 h w0 O q)


end Go.Proofs.YtmigieemhbnmpaaDoor

/- Function 17 (impl.dayClock): its runs between cut points. Written by a program of this repo (gen). -/
set_option linter.unusedVariables false
set_option linter.unusedSimpArgs false
set_option maxRecDepth 100000
namespace Go.Proofs.YtmigieemhbnmpaaDoor
open Go Go.Am Go.Proofs
def ext17 : Ext := [(26, S26)]
theorem call17_26 : Callable Tryd.prog 26 := ⟨Tryd.f26, Tryd.func26, by kernel_rfl, by kernel_rfl⟩
theorem ext17Ok : ExtOk Tryd.prog ext17 := ⟨⟨call17_26, con26⟩, trivial⟩
/-! Function 17. -/
noncomputable def b17 : Code := bodyOf Tryd.f17
theorem hb17 : Tryd.f17.body = some b17 := by kernel_rfl
def sig17 : List AT := [AT.v (Ty.int IntKind.i64)]
def tys17 : List Ty := [Ty.str]
def P17 (x0 : Int) : Prop := (if (x0 == 1440) = true then True else ((P26 x0) ∧ True))
def g17_0 (x0 : Int) : ByteArray := (if (x0 == 1440) = true then ByteArray.mk #[50, 52, 58, 48, 48] else g26_0 x0)
theorem p17_0 (x0 : Int) : runF tab ext17 false 7 [] 2000 [] tys17 Tryd.f17.results [true] [.code b17] (entE 0 0 sig17 (x0, ())) (entL sig17 (x0, ())) = some ([Dyn.mk Ty.str (ByteArray.mk #[50, 52, 58, 48, 48])], [], [(x0 == 1440) = Bool.true]) := by kernel_rfl
theorem p17_1 (x0 : Int) : runF tab ext17 false 7 [] 2000 [] tys17 Tryd.f17.results [false] [.code b17] (entE 0 0 sig17 (x0, ())) (entL sig17 (x0, ())) = some ([Dyn.mk Ty.str (g26_0 x0)], [], [(x0 == 1440) = Bool.false, P26 x0]) := by kernel_rfl
theorem at17 (x0 : Int) (h : P17 x0) (w0 : World) (O : List Nat) (q : Nat → Value) : AtV Tryd.prog 17 (PostR [⟨Ty.str, g17_0 x0⟩] [] [] q w0 O) 7 w0 O q [] [.code b17] (entE 0 0 sig17 (x0, ())) (entL sig17 (x0, ())) := by
  unfold P17 at h
  unfold g17_0
  by_cases b0 : (x0 == 1440) = true
  · try simp only [if_pos b0] at h ⊢
    exact AtV.fin Tryd.func17 tabOk ext17Ok mixed (p17_0 x0) ⟨b0, trivial⟩
  · try simp only [if_neg b0] at h ⊢
    replace b0 := Bool.eq_false_iff.2 b0
    obtain ⟨s0, h⟩ := h
    exact AtV.fin Tryd.func17 tabOk ext17Ok mixed (p17_1 x0) ⟨b0, s0, trivial⟩

def S17 : Am.Spec := { sig := sig17, pre := fun ⟨x0, _⟩ => P17 x0, res := fun ⟨x0, _⟩ => [⟨Ty.str, g17_0 x0⟩] }
theorem con17 : Contract Tryd.prog 17 S17 := contract_of Tryd.func17 hb17 (Nat.le_of_ble_eq_true (by kernel_rfl)) (fun ⟨x0, _⟩ h _ w0 O q => at17 x0 h w0 O q)


end Go.Proofs.YtmigieemhbnmpaaDoor

/- Function 10 (impl.WorkerText): its runs between cut points. Written by a program of this repo (gen). -/
set_option linter.unusedVariables false
set_option linter.unusedSimpArgs false
set_option maxRecDepth 100000
namespace Go.Proofs.YtmigieemhbnmpaaDoor
open Go Go.Am Go.Proofs
def ext10 : Ext := [(16, S16), (17, S17)]
theorem call10_16 : Callable Tryd.prog 16 := ⟨Tryd.f16, Tryd.func16, by kernel_rfl, by kernel_rfl⟩
theorem call10_17 : Callable Tryd.prog 17 := ⟨Tryd.f17, Tryd.func17, by kernel_rfl, by kernel_rfl⟩
theorem ext10Ok : ExtOk Tryd.prog ext10 := ⟨⟨call10_16, con16⟩, ⟨call10_17, con17⟩, trivial⟩
/-! Function 10. -/
noncomputable def b10 : Code := bodyOf Tryd.f10
theorem hb10 : Tryd.f10.body = some b10 := by kernel_rfl
def sig10 : List AT := [AT.v (Ty.cons Ty.str (Ty.cons (Ty.int IntKind.i64) (Ty.cons (Ty.int IntKind.i64) Ty.unit)))]
def tys10 : List Ty := [Ty.str]
def P10 (x0 : ByteArray × Int × Int × Unit) : Prop := (if (!g16_0 x0) = true then True else ((ByteArray.size (Prod.fst x0) + 1 ≤ 9223372036854775807) ∧ ((P17 (Prod.fst (Prod.snd x0))) ∧ ((ByteArray.size (Prod.fst x0 ++ ByteArray.mk #[32]) + ByteArray.size (g17_0 (Prod.fst (Prod.snd x0))) ≤ 9223372036854775807) ∧ ((ByteArray.size (Prod.fst x0 ++ ByteArray.mk #[32] ++ g17_0 (Prod.fst (Prod.snd x0))) + 1 ≤ 9223372036854775807) ∧ ((P17 (Prod.fst (Prod.snd (Prod.snd x0)))) ∧ ((ByteArray.size (Prod.fst x0 ++ ByteArray.mk #[32] ++ g17_0 (Prod.fst (Prod.snd x0)) ++ ByteArray.mk #[32]) + ByteArray.size (g17_0 (Prod.fst (Prod.snd (Prod.snd x0)))) ≤ 9223372036854775807) ∧ True)))))))
def g10_0 (x0 : ByteArray × Int × Int × Unit) : ByteArray := (if (!g16_0 x0) = true then ByteArray.mk #[] else Prod.fst x0 ++ ByteArray.mk #[32] ++ g17_0 (Prod.fst (Prod.snd x0)) ++ ByteArray.mk #[32] ++ g17_0 (Prod.fst (Prod.snd (Prod.snd x0))))
theorem p10_0 (x0 : ByteArray × Int × Int × Unit) : runF tab ext10 false 18 [] 2000 [] tys10 Tryd.f10.results [true] [.code b10] (entE 0 0 sig10 (x0, ())) (entL sig10 (x0, ())) = some ([Dyn.mk Ty.str (ByteArray.mk #[])], [], [True, (!g16_0 x0) = Bool.true]) := by kernel_rfl
theorem p10_1 (x0 : ByteArray × Int × Int × Unit) : runF tab ext10 false 18 [] 2000 [] tys10 Tryd.f10.results [false] [.code b10] (entE 0 0 sig10 (x0, ())) (entL sig10 (x0, ())) = some ([Dyn.mk Ty.str (Prod.fst x0 ++ ByteArray.mk #[32] ++ g17_0 (Prod.fst (Prod.snd x0)) ++ ByteArray.mk #[32] ++ g17_0 (Prod.fst (Prod.snd (Prod.snd x0))))], [], [True, (!g16_0 x0) = Bool.false, ByteArray.size (Prod.fst x0) + 1 ≤ 9223372036854775807, P17 (Prod.fst (Prod.snd x0)), ByteArray.size (Prod.fst x0 ++ ByteArray.mk #[32]) + ByteArray.size (g17_0 (Prod.fst (Prod.snd x0))) ≤ 9223372036854775807, ByteArray.size (Prod.fst x0 ++ ByteArray.mk #[32] ++ g17_0 (Prod.fst (Prod.snd x0))) + 1 ≤ 9223372036854775807, P17 (Prod.fst (Prod.snd (Prod.snd x0))), ByteArray.size (Prod.fst x0 ++ ByteArray.mk #[32] ++ g17_0 (Prod.fst (Prod.snd x0)) ++ ByteArray.mk #[32]) + ByteArray.size (g17_0 (Prod.fst (Prod.snd (Prod.snd x0)))) ≤ 9223372036854775807]) := by kernel_rfl
theorem at10 (x0 : ByteArray × Int × Int × Unit) (h : P10 x0) (w0 : World) (O : List Nat) (q : Nat → Value) : AtV Tryd.prog 10 (PostR [⟨Ty.str, g10_0 x0⟩] [] [] q w0 O) 18 w0 O q [] [.code b10] (entE 0 0 sig10 (x0, ())) (entL sig10 (x0, ())) := by
  unfold P10 at h
  unfold g10_0
  by_cases b0 : (!g16_0 x0) = true
  · try simp only [if_pos b0] at h ⊢
    exact AtV.fin Tryd.func10 tabOk ext10Ok mixed (p10_0 x0) ⟨trivial, b0, trivial⟩
  · try simp only [if_neg b0] at h ⊢
    replace b0 := Bool.eq_false_iff.2 b0
    obtain ⟨s0, h⟩ := h
    obtain ⟨s1, h⟩ := h
    obtain ⟨s2, h⟩ := h
    obtain ⟨s3, h⟩ := h
    obtain ⟨s4, h⟩ := h
    obtain ⟨s5, h⟩ := h
    exact AtV.fin Tryd.func10 tabOk ext10Ok mixed (p10_1 x0) ⟨trivial, b0, s0, s1, s2, s3, s4, s5, trivial⟩

def S10 : Am.Spec := { sig := sig10, pre := fun ⟨x0, _⟩ => P10 x0, res := fun ⟨x0, _⟩ => [⟨Ty.str, g10_0 x0⟩] }
theorem con10 : Contract Tryd.prog 10 S10 := contract_of Tryd.func10 hb10 (Nat.le_of_ble_eq_true (by kernel_rfl)) (fun ⟨x0, _⟩ h _ w0 O q => at10 x0 h w0 O q)


end Go.Proofs.YtmigieemhbnmpaaDoor

/- Function 11 (spec.l01Split): its runs between cut points. Written by a program of this repo (gen). -/
set_option linter.unusedVariables false
set_option linter.unusedSimpArgs false
set_option maxRecDepth 100000
namespace Go.Proofs.YtmigieemhbnmpaaDoor
open Go Go.Am Go.Proofs
def ext11 : Ext := []
theorem ext11Ok : ExtOk Tryd.prog ext11 := trivial
/-! Function 11. -/
noncomputable def b11 : Code := bodyOf Tryd.f11
theorem hb11 : Tryd.f11.body = some b11 := by kernel_rfl
def sig11 : List AT := [AT.v (Ty.str), AT.v (Ty.int IntKind.u8)]
def tys11 : List Ty := [Ty.sl Ty.str]
def E11_4 (v6 : Int) (v7 : Int) (h0 : List ByteArray) (x0 : ByteArray) (x1 : Int) : Env := [(0, PV.a (Atom.val (Value.string x0))), (1, PV.a (Atom.val (Value.int IntKind.u8 x1))), (5, PV.a (Atom.osl 0 Option.none)), (6, PV.a (Atom.val (Value.int IntKind.i64 v6))), (7, PV.a (Atom.val (Value.int IntKind.i64 v7)))]
def L11_4 (v6 : Int) (v7 : Int) (h0 : List ByteArray) (x0 : ByteArray) (x1 : Int) : Heap := [Option.some (Arr.mk Ty.str h0 Bool.false)]
mutual
def R11 : Nat → ByteArray → Int → List Dyn → Prop
  | 0, _, _, _ => False
  | n + 1, x0, x1, ds => (R11_4 n (0) (0) ([]) (x0) (x1) ds)
def R11_4 : Nat → Int → Int → List ByteArray → ByteArray → Int → List Dyn → Prop
  | 0, _, _, _, _, _, _ => False
  | n + 1, v6, v7, h0, x0, x1, ds => (if (Decidable.decide (v7 < (↑(ByteArray.size x0) : Int))) = true then ((0 ≤ v7) ∧ (v7 < (↑(ByteArray.size x0) : Int)) ∧ (if ((↑(UInt8.toNat (List.getD (Array.toList (ByteArray.data x0)) (Int.toNat v7) 0)) : Int) == x1) = true then ((0 ≤ v6) ∧ (v6 ≤ v7) ∧ (v7 ≤ (↑(ByteArray.size x0) : Int)) ∧ (((List.length h0 + 1) * 16 ≤ 140737488355328) ∧ ((InR IntKind.i64 (v7 + 1)) ∧ ((InR IntKind.i64 (v7 + 1)) ∧ (R11_4 n (v7 + 1) (v7 + 1) (h0 ++ [ByteArray.extract x0 (Int.toNat v6) (Int.toNat v7)]) (x0) (x1) ds))))) else ((InR IntKind.i64 (v7 + 1)) ∧ (R11_4 n (v6) (v7 + 1) (h0) (x0) (x1) ds)))) else ((0 ≤ v6) ∧ (v6 ≤ (↑(ByteArray.size x0) : Int)) ∧ (((List.length h0 + 1) * 16 ≤ 140737488355328) ∧ (ds = [Dyn.mk (Ty.sl Ty.str) (h0 ++ [ByteArray.extract x0 (Int.toNat v6) (Int.toNat (↑(ByteArray.size x0) : Int))])]))))
end
theorem p11_0 (x0 : ByteArray) (x1 : Int) : Am.runN tab ext11 false 35 [] 2000 [] [] [0, 1, 5, 6, 7] [0] [] [.code b11] (entE 0 0 sig11 (x0, x1, ())) (entL sig11 (x0, x1, ())) = some (cutAt b11 4, E11_4 (0) (0) ([]) (x0) (x1), L11_4 (0) (0) ([]) (x0) (x1), []) := by kernel_rfl
theorem p11_1 (v6 : Int) (v7 : Int) (h0 : List ByteArray) (x0 : ByteArray) (x1 : Int) : Am.runN tab ext11 false 35 [] 2000 [] [] [0, 1, 5, 6, 7] [0] [true, true] (cutAt b11 4) (E11_4 v6 v7 h0 x0 x1) (L11_4 v6 v7 h0 x0 x1) = some (cutAt b11 4, E11_4 (v7 + 1) (v7 + 1) (h0 ++ [ByteArray.extract x0 (Int.toNat v6) (Int.toNat v7)]) (x0) (x1), L11_4 (v7 + 1) (v7 + 1) (h0 ++ [ByteArray.extract x0 (Int.toNat v6) (Int.toNat v7)]) (x0) (x1), [Decidable.decide (v7 < (↑(ByteArray.size x0) : Int)) = Bool.true, 0 ≤ v7, v7 < (↑(ByteArray.size x0) : Int), ((↑(UInt8.toNat (List.getD (Array.toList (ByteArray.data x0)) (Int.toNat v7) 0)) : Int) == x1) = Bool.true, 0 ≤ v6, v6 ≤ v7, v7 ≤ (↑(ByteArray.size x0) : Int), (List.length h0 + 1) * 16 ≤ 140737488355328, InR IntKind.i64 (v7 + 1), InR IntKind.i64 (v7 + 1)]) := by kernel_rfl
theorem p11_2 (v6 : Int) (v7 : Int) (h0 : List ByteArray) (x0 : ByteArray) (x1 : Int) : Am.runN tab ext11 false 35 [] 2000 [] [] [0, 1, 5, 6, 7] [0] [true, false] (cutAt b11 4) (E11_4 v6 v7 h0 x0 x1) (L11_4 v6 v7 h0 x0 x1) = some (cutAt b11 4, E11_4 (v6) (v7 + 1) (h0) (x0) (x1), L11_4 (v6) (v7 + 1) (h0) (x0) (x1), [Decidable.decide (v7 < (↑(ByteArray.size x0) : Int)) = Bool.true, 0 ≤ v7, v7 < (↑(ByteArray.size x0) : Int), ((↑(UInt8.toNat (List.getD (Array.toList (ByteArray.data x0)) (Int.toNat v7) 0)) : Int) == x1) = Bool.false, InR IntKind.i64 (v7 + 1)]) := by kernel_rfl
theorem p11_3 (v6 : Int) (v7 : Int) (h0 : List ByteArray) (x0 : ByteArray) (x1 : Int) : runF tab ext11 false 35 [] 2000 [] tys11 Tryd.f11.results [false] (cutAt b11 4) (E11_4 v6 v7 h0 x0 x1) (L11_4 v6 v7 h0 x0 x1) = some ([Dyn.mk (Ty.sl Ty.str) (h0 ++ [ByteArray.extract x0 (Int.toNat v6) (Int.toNat (↑(ByteArray.size x0) : Int))])], [], [Decidable.decide (v7 < (↑(ByteArray.size x0) : Int)) = Bool.false, 0 ≤ v6, v6 ≤ (↑(ByteArray.size x0) : Int), (List.length h0 + 1) * 16 ≤ 140737488355328]) := by kernel_rfl
theorem snd11 : ∀ n, (∀ (x0 : ByteArray) (x1 : Int) ds, R11 n x0 x1 ds → ∀ w0 O q, AtV Tryd.prog 11 (PostR ds [] [] q w0 O) 35 w0 O q [] [.code b11] (entE 0 0 sig11 (x0, x1, ())) (entL sig11 (x0, x1, ()))) ∧ (∀ (v6 : Int) (v7 : Int) (h0 : List ByteArray) (x0 : ByteArray) (x1 : Int) ds, R11_4 n v6 v7 h0 x0 x1 ds → ∀ w0 O q, AtV Tryd.prog 11 (PostR ds [] [] q w0 O) 35 w0 O q [] (cutAt b11 4) (E11_4 v6 v7 h0 x0 x1) (L11_4 v6 v7 h0 x0 x1)) := by
  intro n
  induction n with
  | zero => exact ⟨fun _ _ _ h => by simp only [R11] at h, fun _ _ _ _ _ _ h => by simp only [R11_4] at h⟩
  | succ n ih =>
  obtain ⟨ih, ih4⟩ := ih
  refine ⟨?_, ?_⟩
  · intro x0 x1 ds h w0 O q
    rw [R11] at h
    exact AtV.runN tabOk ext11Ok mixed (p11_0 x0 x1) trivial (ih4 _ _ _ _ _ _ h w0 O q)

  · intro v6 v7 h0 x0 x1 ds h w0 O q
    rw [R11_4] at h
    by_cases b0 : (Decidable.decide (v7 < (↑(ByteArray.size x0) : Int))) = true
    · rw [if_pos b0] at h
      obtain ⟨s0, s1, h⟩ := h
      by_cases b1 : ((↑(UInt8.toNat (List.getD (Array.toList (ByteArray.data x0)) (Int.toNat v7) 0)) : Int) == x1) = true
      · rw [if_pos b1] at h
        obtain ⟨s2, s3, s4, h⟩ := h
        obtain ⟨s5, h⟩ := h
        obtain ⟨s6, h⟩ := h
        obtain ⟨s7, h⟩ := h
        exact AtV.runN tabOk ext11Ok mixed (p11_1 v6 v7 h0 x0 x1) ⟨b0, s0, s1, b1, s2, s3, s4, s5, s6, s7, trivial⟩ (ih4 _ _ _ _ _ _ h w0 O q)
      · rw [if_neg b1] at h
        replace b1 := Bool.eq_false_iff.2 b1
        obtain ⟨s2, h⟩ := h
        exact AtV.runN tabOk ext11Ok mixed (p11_2 v6 v7 h0 x0 x1) ⟨b0, s0, s1, b1, s2, trivial⟩ (ih4 _ _ _ _ _ _ h w0 O q)
    · rw [if_neg b0] at h
      replace b0 := Bool.eq_false_iff.2 b0
      obtain ⟨s0, s1, h⟩ := h
      obtain ⟨s2, h⟩ := h
      subst h
      exact AtV.fin Tryd.func11 tabOk ext11Ok mixed (p11_3 v6 v7 h0 x0 x1) ⟨b0, s0, s1, s2, trivial⟩



def c11 (x1 : Int) : UInt8 := UInt8.ofNat x1.toNat
def g11_0 (x0 : ByteArray) (x1 : Int) : List ByteArray := bss (splitC (c11 x1) x0.data.toList)
def P11 (x0 : ByteArray) (x1 : Int) : Prop := x0.size < 4294967281 ∧ 0 ≤ x1 ∧ x1 ≤ 255

theorem run11 (x0 : ByteArray) (x1 : Int) (hs : x0.size < 4294967281) (h0 : 0 ≤ x1) (h1 : x1 ≤ 255) : ∀ (k i frm : Nat) (h : List ByteArray), i + k = x0.size → frm ≤ i → c11 x1 ∉ (x0.data.toList.drop frm).take (i - frm) → h.length ≤ i →
    R11_4 (k + 1) (frm : Int) (i : Int) h x0 x1 [⟨.sl .str, h ++ bss (splitC (c11 x1) (x0.data.toList.drop frm))⟩] := by
  intro k
  have hll : x0.data.toList.length = x0.size := rfl
  induction k with
  | zero =>
    intro i frm h hi hf hc hl
    rw [R11_4, if_neg (by simp; omega)]
    refine ⟨by omega, by omega, by omega, ?_⟩
    have e : (x0.data.toList.drop frm).take (i - frm) = x0.data.toList.drop frm := List.take_of_length_le (by rw [List.length_drop]; omega)
    rw [e] at hc
    rw [splitC_free _ hc, Int.toNat_natCast, Int.toNat_natCast, Lib.extract_from]
    rfl
  | succ k ih =>
    intro i frm h hi hf hc hl
    have hup : InR .i64 ((i : Int) + 1) := by rw [i64_iff]; omega
    have hlt : i < x0.data.toList.length := by rw [hll]; omega
    have hcons : x0.data.toList.drop i = x0.data.toList.getD i 0 :: x0.data.toList.drop (i + 1) := drop_get _ i 0 hlt
    have hsplit : x0.data.toList.drop frm = (x0.data.toList.drop frm).take (i - frm) ++ x0.data.toList.drop i := by
      conv => lhs; rw [← List.take_append_drop (i - frm) (x0.data.toList.drop frm)]
      rw [List.drop_drop, show frm + (i - frm) = i by omega]
    rw [R11_4, if_pos (by simp; omega)]
    simp only [Int.toNat_natCast]
    refine ⟨by omega, by omega, ?_⟩
    have hb : (((x0.data.toList.getD i 0).toNat : Int) == x1) = true ↔ x0.data.toList.getD i 0 = c11 x1 := by
      have hlt' := (x0.data.toList.getD i 0).toNat_lt
      rw [beq_iff_eq, ← UInt8.toNat_inj]
      unfold c11
      have : (UInt8.ofNat x1.toNat).toNat = x1.toNat := by rw [UInt8.toNat_ofNat']; omega
      rw [this]
      omega
    by_cases he : x0.data.toList.getD i 0 = c11 x1
    · rw [if_pos (hb.2 he)]
      refine ⟨by omega, by omega, by omega, by omega, hup, hup, ?_⟩
      have := ih (i + 1) (i + 1) (h ++ [x0.extract frm i]) (by omega) (Nat.le_refl _) (by simp) (by simp; omega)
      have e2 : x0.extract frm i = ⟨((x0.data.toList.drop frm).take (i - frm)).toArray⟩ := Lib.extract_mk x0.data.toList frm i
      have e3 : splitC (c11 x1) (x0.data.toList.drop frm) = (x0.data.toList.drop frm).take (i - frm) :: splitC (c11 x1) (x0.data.toList.drop (i + 1)) := by
        conv => lhs; rw [hsplit, hcons, he]
        exact splitC_hit _ _ hc
      rw [e3, e2]
      rw [List.append_assoc, e2] at this
      exact this
    · rw [if_neg (fun hh => he (hb.1 hh))]
      refine ⟨hup, ?_⟩
      refine ih (i + 1) frm h (by omega) (by omega) (fun hm => ?_) (by omega)
      have e4 : (x0.data.toList.drop frm).take (i + 1 - frm) = (x0.data.toList.drop frm).take (i - frm) ++ [x0.data.toList.getD i 0] := by
        conv => lhs; rw [hsplit, hcons]
        rw [List.take_append, List.take_of_length_le (by rw [List.length_take, List.length_drop]; omega)]
        have : i + 1 - frm - ((x0.data.toList.drop frm).take (i - frm)).length = 1 := by rw [List.length_take, List.length_drop]; omega
        rw [this]
        rfl
      rw [e4] at hm
      rcases List.mem_append.1 hm with hm | hm
      · exact hc hm
      · exact he (List.mem_singleton.1 hm).symm

theorem top11 (x0 : ByteArray) (x1 : Int) (h : P11 x0 x1) : R11 (x0.size + 1 + 1) x0 x1 [⟨.sl .str, g11_0 x0 x1⟩] := by
  rw [R11]
  have := run11 x0 x1 h.1 h.2.1 h.2.2 x0.size 0 0 [] (by omega) (Nat.le_refl _) (by simp) (by simp)
  simpa [g11_0] using this

def S11 : Am.Spec := { sig := sig11, pre := fun ⟨x0, x1, _⟩ => P11 x0 x1, res := fun ⟨x0, x1, _⟩ => [⟨.sl .str, g11_0 x0 x1⟩] }
theorem con11 : Contract Tryd.prog 11 S11 := contract_of Tryd.func11 hb11 (Nat.le_of_ble_eq_true (by kernel_rfl)) (fun ⟨x0, x1, _⟩ h hwf w0 O q =>
  (snd11 _).1 x0 x1 _ (top11 x0 x1 h) w0 O q)

end Go.Proofs.YtmigieemhbnmpaaDoor

/- Function 31 (spec.l01Digit): its runs between cut points. Written by a program of this repo (gen). -/
set_option linter.unusedVariables false
set_option linter.unusedSimpArgs false
set_option maxRecDepth 100000
namespace Go.Proofs.YtmigieemhbnmpaaDoor
open Go Go.Am Go.Proofs
def ext31 : Ext := []
theorem ext31Ok : ExtOk Tryd.prog ext31 := trivial
/-! Function 31. -/
noncomputable def b31 : Code := bodyOf Tryd.f31
theorem hb31 : Tryd.f31.body = some b31 := by kernel_rfl
def sig31 : List AT := [AT.v (Ty.int IntKind.u8)]
def tys31 : List Ty := [Ty.bool]
def P31 (x0 : Int) : Prop := True
def g31_0 (x0 : Int) : Bool := (if (Decidable.decide (x0 ≥ 48)) = true then Decidable.decide (x0 ≤ 57) else Bool.false)
theorem p31_0 (x0 : Int) : runF tab ext31 false 9 [] 2000 [] tys31 Tryd.f31.results [true] [.code b31] (entE 0 0 sig31 (x0, ())) (entL sig31 (x0, ())) = some ([Dyn.mk Ty.bool (Decidable.decide (x0 ≤ 57))], [], [Decidable.decide (x0 ≥ 48) = Bool.true]) := by kernel_rfl
theorem p31_1 (x0 : Int) : runF tab ext31 false 9 [] 2000 [] tys31 Tryd.f31.results [false] [.code b31] (entE 0 0 sig31 (x0, ())) (entL sig31 (x0, ())) = some ([Dyn.mk Ty.bool Bool.false], [], [Decidable.decide (x0 ≥ 48) = Bool.false]) := by kernel_rfl
theorem at31 (x0 : Int) (h : P31 x0) (w0 : World) (O : List Nat) (q : Nat → Value) : AtV Tryd.prog 31 (PostR [⟨Ty.bool, g31_0 x0⟩] [] [] q w0 O) 9 w0 O q [] [.code b31] (entE 0 0 sig31 (x0, ())) (entL sig31 (x0, ())) := by
  unfold P31 at h
  unfold g31_0
  by_cases b0 : (Decidable.decide (x0 ≥ 48)) = true
  · try simp only [if_pos b0] at h ⊢
    exact AtV.fin Tryd.func31 tabOk ext31Ok mixed (p31_0 x0) ⟨b0, trivial⟩
  · try simp only [if_neg b0] at h ⊢
    replace b0 := Bool.eq_false_iff.2 b0
    exact AtV.fin Tryd.func31 tabOk ext31Ok mixed (p31_1 x0) ⟨b0, trivial⟩

def S31 : Am.Spec := { sig := sig31, pre := fun ⟨x0, _⟩ => P31 x0, res := fun ⟨x0, _⟩ => [⟨Ty.bool, g31_0 x0⟩] }
theorem con31 : Contract Tryd.prog 31 S31 := contract_of Tryd.func31 hb31 (Nat.le_of_ble_eq_true (by kernel_rfl)) (fun ⟨x0, _⟩ h _ w0 O q => at31 x0 h w0 O q)


end Go.Proofs.YtmigieemhbnmpaaDoor

/- Function 29 (spec.l02Digits): its runs between cut points. Written by a program of this repo (gen). -/
set_option linter.unusedVariables false
set_option linter.unusedSimpArgs false
set_option maxRecDepth 100000
namespace Go.Proofs.YtmigieemhbnmpaaDoor
open Go Go.Am Go.Proofs
def ext29 : Ext := [(31, S31)]
theorem call29_31 : Callable Tryd.prog 31 := ⟨Tryd.f31, Tryd.func31, by kernel_rfl, by kernel_rfl⟩
theorem ext29Ok : ExtOk Tryd.prog ext29 := ⟨⟨call29_31, con31⟩, trivial⟩
/-! Function 29. -/
noncomputable def b29 : Code := bodyOf Tryd.f29
theorem hb29 : Tryd.f29.body = some b29 := by kernel_rfl
def sig29 : List AT := [AT.v (Ty.str)]
def tys29 : List Ty := [Ty.int IntKind.i64, Ty.bool]
def E29_3 (v4 : Int) (v5 : Int) (x0 : ByteArray) : Env := [(0, PV.a (Atom.val (Value.string x0))), (4, PV.a (Atom.val (Value.int IntKind.i64 v4))), (5, PV.a (Atom.val (Value.int IntKind.i64 v5)))]
def L29_3 (v4 : Int) (v5 : Int) (x0 : ByteArray) : Heap := []
mutual
def R29 : Nat → ByteArray → List Dyn → Prop
  | 0, _, _ => False
  | n + 1, x0, ds => (R29_3 n (0) (0) (x0) ds)
def R29_3 : Nat → Int → Int → ByteArray → List Dyn → Prop
  | 0, _, _, _, _ => False
  | n + 1, v4, v5, x0, ds => (if (Decidable.decide (v5 < (↑(ByteArray.size x0) : Int))) = true then ((0 ≤ v5) ∧ (v5 < (↑(ByteArray.size x0) : Int)) ∧ (if (!g31_0 (↑(UInt8.toNat (List.getD (Array.toList (ByteArray.data x0)) (Int.toNat v5) 0)) : Int)) = true then (ds = [Dyn.mk (Ty.int IntKind.i64) 0, Dyn.mk Ty.bool Bool.false]) else ((InR IntKind.i64 (10 * v4)) ∧ ((0 ≤ v5) ∧ (v5 < (↑(ByteArray.size x0) : Int)) ∧ ((InR IntKind.u8 ((↑(UInt8.toNat (List.getD (Array.toList (ByteArray.data x0)) (Int.toNat v5) 0)) : Int) - 48)) ∧ ((InR IntKind.i64 ((↑(UInt8.toNat (List.getD (Array.toList (ByteArray.data x0)) (Int.toNat v5) 0)) : Int) - 48)) ∧ ((InR IntKind.i64 (10 * v4 + ((↑(UInt8.toNat (List.getD (Array.toList (ByteArray.data x0)) (Int.toNat v5) 0)) : Int) - 48))) ∧ ((InR IntKind.i64 (v5 + 1)) ∧ (R29_3 n (10 * v4 + ((↑(UInt8.toNat (List.getD (Array.toList (ByteArray.data x0)) (Int.toNat v5) 0)) : Int) - 48)) (v5 + 1) (x0) ds))))))))) else (ds = [Dyn.mk (Ty.int IntKind.i64) v4, Dyn.mk Ty.bool Bool.true]))
end
theorem p29_0 (x0 : ByteArray) : Am.runN tab ext29 false 26 [] 2000 [] [] [0, 4, 5] [] [] [.code b29] (entE 0 0 sig29 (x0, ())) (entL sig29 (x0, ())) = some (cutAt b29 3, E29_3 (0) (0) (x0), L29_3 (0) (0) (x0), []) := by kernel_rfl
theorem p29_1 (v4 : Int) (v5 : Int) (x0 : ByteArray) : runF tab ext29 false 26 [] 2000 [] tys29 Tryd.f29.results [true, true] (cutAt b29 3) (E29_3 v4 v5 x0) (L29_3 v4 v5 x0) = some ([Dyn.mk (Ty.int IntKind.i64) 0, Dyn.mk Ty.bool Bool.false], [], [Decidable.decide (v5 < (↑(ByteArray.size x0) : Int)) = Bool.true, 0 ≤ v5, v5 < (↑(ByteArray.size x0) : Int), True, (!g31_0 (↑(UInt8.toNat (List.getD (Array.toList (ByteArray.data x0)) (Int.toNat v5) 0)) : Int)) = Bool.true]) := by kernel_rfl
theorem p29_2 (v4 : Int) (v5 : Int) (x0 : ByteArray) : Am.runN tab ext29 false 26 [] 2000 [] [] [0, 4, 5] [] [true, false] (cutAt b29 3) (E29_3 v4 v5 x0) (L29_3 v4 v5 x0) = some (cutAt b29 3, E29_3 (10 * v4 + ((↑(UInt8.toNat (List.getD (Array.toList (ByteArray.data x0)) (Int.toNat v5) 0)) : Int) - 48)) (v5 + 1) (x0), L29_3 (10 * v4 + ((↑(UInt8.toNat (List.getD (Array.toList (ByteArray.data x0)) (Int.toNat v5) 0)) : Int) - 48)) (v5 + 1) (x0), [Decidable.decide (v5 < (↑(ByteArray.size x0) : Int)) = Bool.true, 0 ≤ v5, v5 < (↑(ByteArray.size x0) : Int), True, (!g31_0 (↑(UInt8.toNat (List.getD (Array.toList (ByteArray.data x0)) (Int.toNat v5) 0)) : Int)) = Bool.false, InR IntKind.i64 (10 * v4), 0 ≤ v5, v5 < (↑(ByteArray.size x0) : Int), InR IntKind.u8 ((↑(UInt8.toNat (List.getD (Array.toList (ByteArray.data x0)) (Int.toNat v5) 0)) : Int) - 48), InR IntKind.i64 ((↑(UInt8.toNat (List.getD (Array.toList (ByteArray.data x0)) (Int.toNat v5) 0)) : Int) - 48), InR IntKind.i64 (10 * v4 + ((↑(UInt8.toNat (List.getD (Array.toList (ByteArray.data x0)) (Int.toNat v5) 0)) : Int) - 48)), InR IntKind.i64 (v5 + 1)]) := by kernel_rfl
theorem p29_3 (v4 : Int) (v5 : Int) (x0 : ByteArray) : runF tab ext29 false 26 [] 2000 [] tys29 Tryd.f29.results [false] (cutAt b29 3) (E29_3 v4 v5 x0) (L29_3 v4 v5 x0) = some ([Dyn.mk (Ty.int IntKind.i64) v4, Dyn.mk Ty.bool Bool.true], [], [Decidable.decide (v5 < (↑(ByteArray.size x0) : Int)) = Bool.false]) := by kernel_rfl
theorem snd29 : ∀ n, (∀ (x0 : ByteArray) ds, R29 n x0 ds → ∀ w0 O q, AtV Tryd.prog 29 (PostR ds [] [] q w0 O) 26 w0 O q [] [.code b29] (entE 0 0 sig29 (x0, ())) (entL sig29 (x0, ()))) ∧ (∀ (v4 : Int) (v5 : Int) (x0 : ByteArray) ds, R29_3 n v4 v5 x0 ds → ∀ w0 O q, AtV Tryd.prog 29 (PostR ds [] [] q w0 O) 26 w0 O q [] (cutAt b29 3) (E29_3 v4 v5 x0) (L29_3 v4 v5 x0)) := by
  intro n
  induction n with
  | zero => exact ⟨fun _ _ h => by simp only [R29] at h, fun _ _ _ _ h => by simp only [R29_3] at h⟩
  | succ n ih =>
  obtain ⟨ih, ih3⟩ := ih
  refine ⟨?_, ?_⟩
  · intro x0 ds h w0 O q
    rw [R29] at h
    exact AtV.runN tabOk ext29Ok mixed (p29_0 x0) trivial (ih3 _ _ _ _ h w0 O q)

  · intro v4 v5 x0 ds h w0 O q
    rw [R29_3] at h
    by_cases b0 : (Decidable.decide (v5 < (↑(ByteArray.size x0) : Int))) = true
    · rw [if_pos b0] at h
      obtain ⟨s0, s1, h⟩ := h
      by_cases b1 : (!g31_0 (↑(UInt8.toNat (List.getD (Array.toList (ByteArray.data x0)) (Int.toNat v5) 0)) : Int)) = true
      · rw [if_pos b1] at h
        subst h
        exact AtV.fin Tryd.func29 tabOk ext29Ok mixed (p29_1 v4 v5 x0) ⟨b0, s0, s1, trivial, b1, trivial⟩
      · rw [if_neg b1] at h
        replace b1 := Bool.eq_false_iff.2 b1
        obtain ⟨s2, h⟩ := h
        obtain ⟨s3, s4, h⟩ := h
        obtain ⟨s5, h⟩ := h
        obtain ⟨s6, h⟩ := h
        obtain ⟨s7, h⟩ := h
        obtain ⟨s8, h⟩ := h
        exact AtV.runN tabOk ext29Ok mixed (p29_2 v4 v5 x0) ⟨b0, s0, s1, trivial, b1, s2, s3, s4, s5, s6, s7, s8, trivial⟩ (ih3 _ _ _ _ h w0 O q)
    · rw [if_neg b0] at h
      replace b0 := Bool.eq_false_iff.2 b0
      subst h
      exact AtV.fin Tryd.func29 tabOk ext29Ok mixed (p29_3 v4 v5 x0) ⟨b0, trivial⟩



def d29 (b : UInt8) : Bool := decide (48 ≤ b.toNat) && decide (b.toNat ≤ 57)
def dig29 : List UInt8 → Int → Int × Bool
  | [], n => (n, true)
  | b :: r, n => if d29 b then dig29 r (10 * n + ((b.toNat : Int) - 48)) else (0, false)
def g29_0 (x0 : ByteArray) : Int := (dig29 x0.data.toList 0).1
def g29_1 (x0 : ByteArray) : Bool := (dig29 x0.data.toList 0).2
def P29 (x0 : ByteArray) : Prop := x0.size ≤ 18

theorem run29 (x0 : ByteArray) (hs : x0.size ≤ 18) : ∀ (k i m : Nat), i + k = x0.size → m < 10 ^ i →
    R29_3 (k + 1) (m : Int) (i : Int) x0 [⟨.int .i64, (dig29 (x0.data.toList.drop i) (m : Int)).1⟩, ⟨.bool, (dig29 (x0.data.toList.drop i) (m : Int)).2⟩] := by
  intro k
  have hll : x0.data.toList.length = x0.size := rfl
  induction k with
  | zero =>
    intro i m hi hm
    rw [R29_3, if_neg (by simp; omega), List.drop_of_length_le (by omega)]
    rfl
  | succ k ih =>
    intro i m hi hm
    have hlt : i < x0.data.toList.length := by rw [hll]; omega
    have hcons : x0.data.toList.drop i = x0.data.toList.getD i 0 :: x0.data.toList.drop (i + 1) := drop_get _ i 0 hlt
    rw [R29_3, if_pos (by simp; omega), hcons]
    simp only [Int.toNat_natCast]
    generalize x0.data.toList.getD i 0 = b at *
    refine ⟨by omega, by omega, ?_⟩
    have hg : g31_0 (b.toNat : Int) = d29 b := by
      unfold g31_0 d29
      by_cases h1 : 48 ≤ b.toNat
      · have h1' : (b.toNat : Int) ≥ 48 := by omega
        by_cases h2 : b.toNat ≤ 57
        · have h2' : (b.toNat : Int) ≤ 57 := by omega
          simp [h1, h2, h1', h2']
        · have h2' : ¬ (b.toNat : Int) ≤ 57 := by omega
          simp [h1, h2, h1', h2']
      · have h1' : ¬ (b.toNat : Int) ≥ 48 := by omega
        simp [h1, h1']
    rw [hg]
    unfold dig29
    cases hd : d29 b with
    | false => rfl
    | true =>
      have hd' : 48 ≤ b.toNat ∧ b.toNat ≤ 57 := by unfold d29 at hd; simpa using hd
      have hp : 10 ^ i ≤ 10 ^ 17 := Nat.pow_le_pow_right (by decide) (by omega)
      have hm2 : m < 100000000000000000 := Nat.lt_of_lt_of_le hm hp
      simp only [Bool.not_true, Bool.false_eq_true, if_false, if_true]
      refine ⟨by rw [i64_iff]; omega, by omega, by omega, ?_, by rw [i64_iff]; omega, by rw [i64_iff]; omega, by rw [i64_iff]; omega, ?_⟩
      · rw [u8_iff]; omega
      · have e1 : 10 * (m : Int) + ((b.toNat : Int) - 48) = ((10 * m + (b.toNat - 48) : Nat) : Int) := by omega
        have e2 : (i : Int) + 1 = ((i + 1 : Nat) : Int) := by omega
        rw [e1, e2]
        exact ih (i + 1) (10 * m + (b.toNat - 48)) (by omega) (by rw [Nat.pow_succ]; omega)

theorem top29 (x0 : ByteArray) (h : P29 x0) : R29 (x0.size + 1 + 1) x0 [⟨.int .i64, g29_0 x0⟩, ⟨.bool, g29_1 x0⟩] := by
  rw [R29]
  exact run29 x0 h x0.size 0 0 (by omega) (by decide)

def S29 : Am.Spec := { sig := sig29, pre := fun ⟨x0, _⟩ => P29 x0, res := fun ⟨x0, _⟩ => [⟨.int .i64, g29_0 x0⟩, ⟨.bool, g29_1 x0⟩] }
theorem con29 : Contract Tryd.prog 29 S29 := contract_of Tryd.func29 hb29 (Nat.le_of_ble_eq_true (by kernel_rfl)) (fun ⟨x0, _⟩ h hwf w0 O q =>
  (snd29 _).1 x0 _ (top29 x0 h) w0 O q)

end Go.Proofs.YtmigieemhbnmpaaDoor

/- Function 18 (spec.ReadClock): its runs between cut points. Written by a program of this repo (gen). -/
set_option linter.unusedVariables false
set_option linter.unusedSimpArgs false
set_option maxRecDepth 100000
namespace Go.Proofs.YtmigieemhbnmpaaDoor
open Go Go.Am Go.Proofs
def ext18 : Ext := [(29, S29)]
theorem call18_29 : Callable Tryd.prog 29 := ⟨Tryd.f29, Tryd.func29, by kernel_rfl, by kernel_rfl⟩
theorem ext18Ok : ExtOk Tryd.prog ext18 := ⟨⟨call18_29, con29⟩, trivial⟩
/-! Function 18. -/
noncomputable def b18 : Code := bodyOf Tryd.f18
theorem hb18 : Tryd.f18.body = some b18 := by kernel_rfl
def sig18 : List AT := [AT.v (Ty.str)]
def tys18 : List Ty := [Ty.int IntKind.i64, Ty.bool]
def P18 (x0 : ByteArray) : Prop := (if ((↑(ByteArray.size x0) : Int) != 5) = true then True else ((2 < (↑(ByteArray.size x0) : Int)) ∧ (if ((↑(UInt8.toNat (List.getD (Array.toList (ByteArray.data x0)) 2 0)) : Int) != 58) = true then True else ((2 ≤ (↑(ByteArray.size x0) : Int)) ∧ ((P29 (ByteArray.extract x0 0 2)) ∧ ((3 ≤ (↑(ByteArray.size x0) : Int)) ∧ ((P29 (ByteArray.extract x0 3 (Int.toNat (↑(ByteArray.size x0) : Int)))) ∧ (if (!g29_1 (ByteArray.extract x0 0 2)) = true then True else (if (!g29_1 (ByteArray.extract x0 3 (Int.toNat (↑(ByteArray.size x0) : Int)))) = true then True else (if (Decidable.decide (g29_0 (ByteArray.extract x0 0 2) > 23)) = true then True else (if (Decidable.decide (g29_0 (ByteArray.extract x0 3 (Int.toNat (↑(ByteArray.size x0) : Int))) > 59)) = true then True else ((InR IntKind.i64 (60 * g29_0 (ByteArray.extract x0 0 2))) ∧ ((InR IntKind.i64 (60 * g29_0 (ByteArray.extract x0 0 2) + g29_0 (ByteArray.extract x0 3 (Int.toNat (↑(ByteArray.size x0) : Int))))) ∧ True)))))))))))))
def g18_0 (x0 : ByteArray) : Int := (if ((↑(ByteArray.size x0) : Int) != 5) = true then 0 else (if ((↑(UInt8.toNat (List.getD (Array.toList (ByteArray.data x0)) 2 0)) : Int) != 58) = true then 0 else (if (!g29_1 (ByteArray.extract x0 0 2)) = true then 0 else (if (!g29_1 (ByteArray.extract x0 3 (Int.toNat (↑(ByteArray.size x0) : Int)))) = true then 0 else (if (Decidable.decide (g29_0 (ByteArray.extract x0 0 2) > 23)) = true then 0 else (if (Decidable.decide (g29_0 (ByteArray.extract x0 3 (Int.toNat (↑(ByteArray.size x0) : Int))) > 59)) = true then 0 else 60 * g29_0 (ByteArray.extract x0 0 2) + g29_0 (ByteArray.extract x0 3 (Int.toNat (↑(ByteArray.size x0) : Int)))))))))
def g18_1 (x0 : ByteArray) : Bool := (if ((↑(ByteArray.size x0) : Int) != 5) = true then Bool.false else (if ((↑(UInt8.toNat (List.getD (Array.toList (ByteArray.data x0)) 2 0)) : Int) != 58) = true then Bool.false else (if (!g29_1 (ByteArray.extract x0 0 2)) = true then Bool.false else (if (!g29_1 (ByteArray.extract x0 3 (Int.toNat (↑(ByteArray.size x0) : Int)))) = true then Bool.false else (if (Decidable.decide (g29_0 (ByteArray.extract x0 0 2) > 23)) = true then Bool.false else (if (Decidable.decide (g29_0 (ByteArray.extract x0 3 (Int.toNat (↑(ByteArray.size x0) : Int))) > 59)) = true then Bool.false else Bool.true))))))
theorem p18_0 (x0 : ByteArray) : runF tab ext18 false 46 [] 2000 [] tys18 Tryd.f18.results [true, true] [.code b18] (entE 0 0 sig18 (x0, ())) (entL sig18 (x0, ())) = some ([Dyn.mk (Ty.int IntKind.i64) 0, Dyn.mk Ty.bool Bool.false], [], [((↑(ByteArray.size x0) : Int) != 5) = Bool.true, Bool.true = Bool.true]) := by kernel_rfl
theorem p18_1 (x0 : ByteArray) : runF tab ext18 false 46 [] 2000 [] tys18 Tryd.f18.results [false, true] [.code b18] (entE 0 0 sig18 (x0, ())) (entL sig18 (x0, ())) = some ([Dyn.mk (Ty.int IntKind.i64) 0, Dyn.mk Ty.bool Bool.false], [], [((↑(ByteArray.size x0) : Int) != 5) = Bool.false, (0 : Int) ≤ (2 : Int), 2 < (↑(ByteArray.size x0) : Int), ((↑(UInt8.toNat (List.getD (Array.toList (ByteArray.data x0)) 2 0)) : Int) != 58) = Bool.true]) := by kernel_rfl
theorem p18_2 (x0 : ByteArray) : runF tab ext18 false 46 [] 2000 [] tys18 Tryd.f18.results [false, false, true, true, true, true] [.code b18] (entE 0 0 sig18 (x0, ())) (entL sig18 (x0, ())) = some ([Dyn.mk (Ty.int IntKind.i64) 0, Dyn.mk Ty.bool Bool.false], [], [((↑(ByteArray.size x0) : Int) != 5) = Bool.false, (0 : Int) ≤ (2 : Int), 2 < (↑(ByteArray.size x0) : Int), ((↑(UInt8.toNat (List.getD (Array.toList (ByteArray.data x0)) 2 0)) : Int) != 58) = Bool.false, (0 : Int) ≤ (2 : Int), 2 ≤ (↑(ByteArray.size x0) : Int), P29 (ByteArray.extract x0 0 2), (0 : Int) ≤ (3 : Int), 3 ≤ (↑(ByteArray.size x0) : Int), P29 (ByteArray.extract x0 3 (Int.toNat (↑(ByteArray.size x0) : Int))), (!g29_1 (ByteArray.extract x0 0 2)) = Bool.true, Bool.true = Bool.true, Bool.true = Bool.true, Bool.true = Bool.true]) := by kernel_rfl
theorem p18_3 (x0 : ByteArray) : runF tab ext18 false 46 [] 2000 [] tys18 Tryd.f18.results [false, false, false, true, true, true] [.code b18] (entE 0 0 sig18 (x0, ())) (entL sig18 (x0, ())) = some ([Dyn.mk (Ty.int IntKind.i64) 0, Dyn.mk Ty.bool Bool.false], [], [((↑(ByteArray.size x0) : Int) != 5) = Bool.false, (0 : Int) ≤ (2 : Int), 2 < (↑(ByteArray.size x0) : Int), ((↑(UInt8.toNat (List.getD (Array.toList (ByteArray.data x0)) 2 0)) : Int) != 58) = Bool.false, (0 : Int) ≤ (2 : Int), 2 ≤ (↑(ByteArray.size x0) : Int), P29 (ByteArray.extract x0 0 2), (0 : Int) ≤ (3 : Int), 3 ≤ (↑(ByteArray.size x0) : Int), P29 (ByteArray.extract x0 3 (Int.toNat (↑(ByteArray.size x0) : Int))), (!g29_1 (ByteArray.extract x0 0 2)) = Bool.false, (!g29_1 (ByteArray.extract x0 3 (Int.toNat (↑(ByteArray.size x0) : Int)))) = Bool.true, Bool.true = Bool.true, Bool.true = Bool.true]) := by kernel_rfl
theorem p18_4 (x0 : ByteArray) : runF tab ext18 false 46 [] 2000 [] tys18 Tryd.f18.results [false, false, false, false, true, true] [.code b18] (entE 0 0 sig18 (x0, ())) (entL sig18 (x0, ())) = some ([Dyn.mk (Ty.int IntKind.i64) 0, Dyn.mk Ty.bool Bool.false], [], [((↑(ByteArray.size x0) : Int) != 5) = Bool.false, (0 : Int) ≤ (2 : Int), 2 < (↑(ByteArray.size x0) : Int), ((↑(UInt8.toNat (List.getD (Array.toList (ByteArray.data x0)) 2 0)) : Int) != 58) = Bool.false, (0 : Int) ≤ (2 : Int), 2 ≤ (↑(ByteArray.size x0) : Int), P29 (ByteArray.extract x0 0 2), (0 : Int) ≤ (3 : Int), 3 ≤ (↑(ByteArray.size x0) : Int), P29 (ByteArray.extract x0 3 (Int.toNat (↑(ByteArray.size x0) : Int))), (!g29_1 (ByteArray.extract x0 0 2)) = Bool.false, (!g29_1 (ByteArray.extract x0 3 (Int.toNat (↑(ByteArray.size x0) : Int)))) = Bool.false, Decidable.decide (g29_0 (ByteArray.extract x0 0 2) > 23) = Bool.true, Bool.true = Bool.true]) := by kernel_rfl
theorem p18_5 (x0 : ByteArray) : runF tab ext18 false 46 [] 2000 [] tys18 Tryd.f18.results [false, false, false, false, false, true] [.code b18] (entE 0 0 sig18 (x0, ())) (entL sig18 (x0, ())) = some ([Dyn.mk (Ty.int IntKind.i64) 0, Dyn.mk Ty.bool Bool.false], [], [((↑(ByteArray.size x0) : Int) != 5) = Bool.false, (0 : Int) ≤ (2 : Int), 2 < (↑(ByteArray.size x0) : Int), ((↑(UInt8.toNat (List.getD (Array.toList (ByteArray.data x0)) 2 0)) : Int) != 58) = Bool.false, (0 : Int) ≤ (2 : Int), 2 ≤ (↑(ByteArray.size x0) : Int), P29 (ByteArray.extract x0 0 2), (0 : Int) ≤ (3 : Int), 3 ≤ (↑(ByteArray.size x0) : Int), P29 (ByteArray.extract x0 3 (Int.toNat (↑(ByteArray.size x0) : Int))), (!g29_1 (ByteArray.extract x0 0 2)) = Bool.false, (!g29_1 (ByteArray.extract x0 3 (Int.toNat (↑(ByteArray.size x0) : Int)))) = Bool.false, Decidable.decide (g29_0 (ByteArray.extract x0 0 2) > 23) = Bool.false, Decidable.decide (g29_0 (ByteArray.extract x0 3 (Int.toNat (↑(ByteArray.size x0) : Int))) > 59) = Bool.true]) := by kernel_rfl
theorem p18_6 (x0 : ByteArray) : runF tab ext18 false 46 [] 2000 [] tys18 Tryd.f18.results [false, false, false, false, false, false] [.code b18] (entE 0 0 sig18 (x0, ())) (entL sig18 (x0, ())) = some ([Dyn.mk (Ty.int IntKind.i64) (60 * g29_0 (ByteArray.extract x0 0 2) + g29_0 (ByteArray.extract x0 3 (Int.toNat (↑(ByteArray.size x0) : Int)))), Dyn.mk Ty.bool Bool.true], [], [((↑(ByteArray.size x0) : Int) != 5) = Bool.false, (0 : Int) ≤ (2 : Int), 2 < (↑(ByteArray.size x0) : Int), ((↑(UInt8.toNat (List.getD (Array.toList (ByteArray.data x0)) 2 0)) : Int) != 58) = Bool.false, (0 : Int) ≤ (2 : Int), 2 ≤ (↑(ByteArray.size x0) : Int), P29 (ByteArray.extract x0 0 2), (0 : Int) ≤ (3 : Int), 3 ≤ (↑(ByteArray.size x0) : Int), P29 (ByteArray.extract x0 3 (Int.toNat (↑(ByteArray.size x0) : Int))), (!g29_1 (ByteArray.extract x0 0 2)) = Bool.false, (!g29_1 (ByteArray.extract x0 3 (Int.toNat (↑(ByteArray.size x0) : Int)))) = Bool.false, Decidable.decide (g29_0 (ByteArray.extract x0 0 2) > 23) = Bool.false, Decidable.decide (g29_0 (ByteArray.extract x0 3 (Int.toNat (↑(ByteArray.size x0) : Int))) > 59) = Bool.false, InR IntKind.i64 (60 * g29_0 (ByteArray.extract x0 0 2)), InR IntKind.i64 (60 * g29_0 (ByteArray.extract x0 0 2) + g29_0 (ByteArray.extract x0 3 (Int.toNat (↑(ByteArray.size x0) : Int))))]) := by kernel_rfl
theorem at18 (x0 : ByteArray) (h : P18 x0) (w0 : World) (O : List Nat) (q : Nat → Value) : AtV Tryd.prog 18 (PostR [⟨Ty.int IntKind.i64, g18_0 x0⟩, ⟨Ty.bool, g18_1 x0⟩] [] [] q w0 O) 46 w0 O q [] [.code b18] (entE 0 0 sig18 (x0, ())) (entL sig18 (x0, ())) := by
  unfold P18 at h
  unfold g18_0 g18_1
  by_cases b0 : ((↑(ByteArray.size x0) : Int) != 5) = true
  · try simp only [if_pos b0] at h ⊢
    exact AtV.fin Tryd.func18 tabOk ext18Ok mixed (p18_0 x0) ⟨b0, rfl, trivial⟩
  · try simp only [if_neg b0] at h ⊢
    replace b0 := Bool.eq_false_iff.2 b0
    obtain ⟨s0, h⟩ := h
    by_cases b1 : ((↑(UInt8.toNat (List.getD (Array.toList (ByteArray.data x0)) 2 0)) : Int) != 58) = true
    · try simp only [if_pos b1] at h ⊢
      exact AtV.fin Tryd.func18 tabOk ext18Ok mixed (p18_1 x0) ⟨b0, (by decide), s0, b1, trivial⟩
    · try simp only [if_neg b1] at h ⊢
      replace b1 := Bool.eq_false_iff.2 b1
      obtain ⟨s1, h⟩ := h
      obtain ⟨s2, h⟩ := h
      obtain ⟨s3, h⟩ := h
      obtain ⟨s4, h⟩ := h
      by_cases b2 : (!g29_1 (ByteArray.extract x0 0 2)) = true
      · try simp only [if_pos b2] at h ⊢
        exact AtV.fin Tryd.func18 tabOk ext18Ok mixed (p18_2 x0) ⟨b0, (by decide), s0, b1, (by decide), s1, s2, (by decide), s3, s4, b2, rfl, rfl, rfl, trivial⟩
      · try simp only [if_neg b2] at h ⊢
        replace b2 := Bool.eq_false_iff.2 b2
        by_cases b3 : (!g29_1 (ByteArray.extract x0 3 (Int.toNat (↑(ByteArray.size x0) : Int)))) = true
        · try simp only [if_pos b3] at h ⊢
          exact AtV.fin Tryd.func18 tabOk ext18Ok mixed (p18_3 x0) ⟨b0, (by decide), s0, b1, (by decide), s1, s2, (by decide), s3, s4, b2, b3, rfl, rfl, trivial⟩
        · try simp only [if_neg b3] at h ⊢
          replace b3 := Bool.eq_false_iff.2 b3
          by_cases b4 : (Decidable.decide (g29_0 (ByteArray.extract x0 0 2) > 23)) = true
          · try simp only [if_pos b4] at h ⊢
            exact AtV.fin Tryd.func18 tabOk ext18Ok mixed (p18_4 x0) ⟨b0, (by decide), s0, b1, (by decide), s1, s2, (by decide), s3, s4, b2, b3, b4, rfl, trivial⟩
          · try simp only [if_neg b4] at h ⊢
            replace b4 := Bool.eq_false_iff.2 b4
            by_cases b5 : (Decidable.decide (g29_0 (ByteArray.extract x0 3 (Int.toNat (↑(ByteArray.size x0) : Int))) > 59)) = true
            · try simp only [if_pos b5] at h ⊢
              exact AtV.fin Tryd.func18 tabOk ext18Ok mixed (p18_5 x0) ⟨b0, (by decide), s0, b1, (by decide), s1, s2, (by decide), s3, s4, b2, b3, b4, b5, trivial⟩
            · try simp only [if_neg b5] at h ⊢
              replace b5 := Bool.eq_false_iff.2 b5
              obtain ⟨s5, h⟩ := h
              obtain ⟨s6, h⟩ := h
              exact AtV.fin Tryd.func18 tabOk ext18Ok mixed (p18_6 x0) ⟨b0, (by decide), s0, b1, (by decide), s1, s2, (by decide), s3, s4, b2, b3, b4, b5, s5, s6, trivial⟩

def S18 : Am.Spec := { sig := sig18, pre := fun ⟨x0, _⟩ => P18 x0, res := fun ⟨x0, _⟩ => [⟨Ty.int IntKind.i64, g18_0 x0⟩, ⟨Ty.bool, g18_1 x0⟩] }
theorem con18 : Contract Tryd.prog 18 S18 := contract_of Tryd.func18 hb18 (Nat.le_of_ble_eq_true (by kernel_rfl)) (fun ⟨x0, _⟩ h _ w0 O q => at18 x0 h w0 O q)


end Go.Proofs.YtmigieemhbnmpaaDoor

/- Function 12 (spec.l14ReadClock): its runs between cut points. Written by a program of this repo (gen). -/
set_option linter.unusedVariables false
set_option linter.unusedSimpArgs false
set_option maxRecDepth 100000
namespace Go.Proofs.YtmigieemhbnmpaaDoor
open Go Go.Am Go.Proofs
def ext12 : Ext := [(18, S18)]
theorem call12_18 : Callable Tryd.prog 18 := ⟨Tryd.f18, Tryd.func18, by kernel_rfl, by kernel_rfl⟩
theorem ext12Ok : ExtOk Tryd.prog ext12 := ⟨⟨call12_18, con18⟩, trivial⟩
/-! Function 12. -/
noncomputable def b12 : Code := bodyOf Tryd.f12
theorem hb12 : Tryd.f12.body = some b12 := by kernel_rfl
def sig12 : List AT := [AT.v (Ty.str)]
def tys12 : List Ty := [Ty.int IntKind.i64, Ty.bool]
def P12 (x0 : ByteArray) : Prop := (if (ByteArray.toList x0 == ByteArray.toList (ByteArray.mk #[50, 52, 58, 48, 48])) = true then True else ((P18 x0) ∧ True))
def g12_0 (x0 : ByteArray) : Int := (if (ByteArray.toList x0 == ByteArray.toList (ByteArray.mk #[50, 52, 58, 48, 48])) = true then 1440 else g18_0 x0)
def g12_1 (x0 : ByteArray) : Bool := (if (ByteArray.toList x0 == ByteArray.toList (ByteArray.mk #[50, 52, 58, 48, 48])) = true then Bool.true else g18_1 x0)
theorem p12_0 (x0 : ByteArray) : runF tab ext12 false 10 [] 2000 [] tys12 Tryd.f12.results [true] [.code b12] (entE 0 0 sig12 (x0, ())) (entL sig12 (x0, ())) = some ([Dyn.mk (Ty.int IntKind.i64) 1440, Dyn.mk Ty.bool Bool.true], [], [(ByteArray.toList x0 == ByteArray.toList (ByteArray.mk #[50, 52, 58, 48, 48])) = Bool.true]) := by kernel_rfl
theorem p12_1 (x0 : ByteArray) : runF tab ext12 false 10 [] 2000 [] tys12 Tryd.f12.results [false] [.code b12] (entE 0 0 sig12 (x0, ())) (entL sig12 (x0, ())) = some ([Dyn.mk (Ty.int IntKind.i64) (g18_0 x0), Dyn.mk Ty.bool (g18_1 x0)], [], [(ByteArray.toList x0 == ByteArray.toList (ByteArray.mk #[50, 52, 58, 48, 48])) = Bool.false, P18 x0]) := by kernel_rfl
theorem at12 (x0 : ByteArray) (h : P12 x0) (w0 : World) (O : List Nat) (q : Nat → Value) : AtV Tryd.prog 12 (PostR [⟨Ty.int IntKind.i64, g12_0 x0⟩, ⟨Ty.bool, g12_1 x0⟩] [] [] q w0 O) 10 w0 O q [] [.code b12] (entE 0 0 sig12 (x0, ())) (entL sig12 (x0, ())) := by
  unfold P12 at h
  unfold g12_0 g12_1
  by_cases b0 : (ByteArray.toList x0 == ByteArray.toList (ByteArray.mk #[50, 52, 58, 48, 48])) = true
  · try simp only [if_pos b0] at h ⊢
    exact AtV.fin Tryd.func12 tabOk ext12Ok mixed (p12_0 x0) ⟨b0, trivial⟩
  · try simp only [if_neg b0] at h ⊢
    replace b0 := Bool.eq_false_iff.2 b0
    obtain ⟨s0, h⟩ := h
    exact AtV.fin Tryd.func12 tabOk ext12Ok mixed (p12_1 x0) ⟨b0, s0, trivial⟩

def S12 : Am.Spec := { sig := sig12, pre := fun ⟨x0, _⟩ => P12 x0, res := fun ⟨x0, _⟩ => [⟨Ty.int IntKind.i64, g12_0 x0⟩, ⟨Ty.bool, g12_1 x0⟩] }
theorem con12 : Contract Tryd.prog 12 S12 := contract_of Tryd.func12 hb12 (Nat.le_of_ble_eq_true (by kernel_rfl)) (fun ⟨x0, _⟩ h _ w0 O q => at12 x0 h w0 O q)


end Go.Proofs.YtmigieemhbnmpaaDoor

/- Function 30 (spec.l01Small): its runs between cut points. Written by a program of this repo (gen). -/
set_option linter.unusedVariables false
set_option linter.unusedSimpArgs false
set_option maxRecDepth 100000
namespace Go.Proofs.YtmigieemhbnmpaaDoor
open Go Go.Am Go.Proofs
def ext30 : Ext := []
theorem ext30Ok : ExtOk Tryd.prog ext30 := trivial
/-! Function 30. -/
noncomputable def b30 : Code := bodyOf Tryd.f30
theorem hb30 : Tryd.f30.body = some b30 := by kernel_rfl
def sig30 : List AT := [AT.v (Ty.int IntKind.u8)]
def tys30 : List Ty := [Ty.bool]
def P30 (x0 : Int) : Prop := True
def g30_0 (x0 : Int) : Bool := (if (Decidable.decide (x0 ≥ 97)) = true then Decidable.decide (x0 ≤ 122) else Bool.false)
theorem p30_0 (x0 : Int) : runF tab ext30 false 9 [] 2000 [] tys30 Tryd.f30.results [true] [.code b30] (entE 0 0 sig30 (x0, ())) (entL sig30 (x0, ())) = some ([Dyn.mk Ty.bool (Decidable.decide (x0 ≤ 122))], [], [Decidable.decide (x0 ≥ 97) = Bool.true]) := by kernel_rfl
theorem p30_1 (x0 : Int) : runF tab ext30 false 9 [] 2000 [] tys30 Tryd.f30.results [false] [.code b30] (entE 0 0 sig30 (x0, ())) (entL sig30 (x0, ())) = some ([Dyn.mk Ty.bool Bool.false], [], [Decidable.decide (x0 ≥ 97) = Bool.false]) := by kernel_rfl
theorem at30 (x0 : Int) (h : P30 x0) (w0 : World) (O : List Nat) (q : Nat → Value) : AtV Tryd.prog 30 (PostR [⟨Ty.bool, g30_0 x0⟩] [] [] q w0 O) 9 w0 O q [] [.code b30] (entE 0 0 sig30 (x0, ())) (entL sig30 (x0, ())) := by
  unfold P30 at h
  unfold g30_0
  by_cases b0 : (Decidable.decide (x0 ≥ 97)) = true
  · try simp only [if_pos b0] at h ⊢
    exact AtV.fin Tryd.func30 tabOk ext30Ok mixed (p30_0 x0) ⟨b0, trivial⟩
  · try simp only [if_neg b0] at h ⊢
    replace b0 := Bool.eq_false_iff.2 b0
    exact AtV.fin Tryd.func30 tabOk ext30Ok mixed (p30_1 x0) ⟨b0, trivial⟩

def S30 : Am.Spec := { sig := sig30, pre := fun ⟨x0, _⟩ => P30 x0, res := fun ⟨x0, _⟩ => [⟨Ty.bool, g30_0 x0⟩] }
theorem con30 : Contract Tryd.prog 30 S30 := contract_of Tryd.func30 hb30 (Nat.le_of_ble_eq_true (by kernel_rfl)) (fun ⟨x0, _⟩ h _ w0 O q => at30 x0 h w0 O q)


end Go.Proofs.YtmigieemhbnmpaaDoor

/- Function 19 (spec.l01Name): its runs between cut points. Written by a program of this repo (gen). -/
set_option linter.unusedVariables false
set_option linter.unusedSimpArgs false
set_option maxRecDepth 100000
namespace Go.Proofs.YtmigieemhbnmpaaDoor
open Go Go.Am Go.Proofs
def ext19 : Ext := [(30, S30), (31, S31)]
theorem call19_30 : Callable Tryd.prog 30 := ⟨Tryd.f30, Tryd.func30, by kernel_rfl, by kernel_rfl⟩
theorem call19_31 : Callable Tryd.prog 31 := ⟨Tryd.f31, Tryd.func31, by kernel_rfl, by kernel_rfl⟩
theorem ext19Ok : ExtOk Tryd.prog ext19 := ⟨⟨call19_30, con30⟩, ⟨call19_31, con31⟩, trivial⟩
/-! Function 19. -/
noncomputable def b19 : Code := bodyOf Tryd.f19
theorem hb19 : Tryd.f19.body = some b19 := by kernel_rfl
def sig19 : List AT := [AT.v (Ty.str)]
def tys19 : List Ty := [Ty.bool]
def E19_4 (v3 : Int) (x0 : ByteArray) : Env := [(0, PV.a (Atom.val (Value.string x0))), (3, PV.a (Atom.val (Value.int IntKind.i64 v3)))]
def L19_4 (v3 : Int) (x0 : ByteArray) : Heap := []
mutual
def R19 : Nat → ByteArray → List Dyn → Prop
  | 0, _, _ => False
  | n + 1, x0, ds => (if (ByteArray.toList x0 == ByteArray.toList (ByteArray.mk #[])) = true then (ds = [Dyn.mk Ty.bool Bool.false]) else (if (Decidable.decide ((↑(ByteArray.size x0) : Int) > 10)) = true then (ds = [Dyn.mk Ty.bool Bool.false]) else ((0 < (↑(ByteArray.size x0) : Int)) ∧ (if (!g30_0 (↑(UInt8.toNat (List.getD (Array.toList (ByteArray.data x0)) 0 0)) : Int)) = true then (ds = [Dyn.mk Ty.bool Bool.false]) else (R19_4 n (0) (x0) ds)))))
def R19_4 : Nat → Int → ByteArray → List Dyn → Prop
  | 0, _, _, _ => False
  | n + 1, v3, x0, ds => (if (Decidable.decide (v3 < (↑(ByteArray.size x0) : Int))) = true then ((0 ≤ v3) ∧ (v3 < (↑(ByteArray.size x0) : Int)) ∧ (if (!g30_0 (↑(UInt8.toNat (List.getD (Array.toList (ByteArray.data x0)) (Int.toNat v3) 0)) : Int)) = true then ((0 ≤ v3) ∧ (v3 < (↑(ByteArray.size x0) : Int)) ∧ (if (!g31_0 (↑(UInt8.toNat (List.getD (Array.toList (ByteArray.data x0)) (Int.toNat v3) 0)) : Int)) = true then (ds = [Dyn.mk Ty.bool Bool.false]) else ((InR IntKind.i64 (v3 + 1)) ∧ (R19_4 n (v3 + 1) (x0) ds)))) else ((InR IntKind.i64 (v3 + 1)) ∧ (R19_4 n (v3 + 1) (x0) ds)))) else (ds = [Dyn.mk Ty.bool Bool.true]))
end
theorem p19_0 (x0 : ByteArray) : runF tab ext19 false 35 [] 2000 [] tys19 Tryd.f19.results [true, true, true] [.code b19] (entE 0 0 sig19 (x0, ())) (entL sig19 (x0, ())) = some ([Dyn.mk Ty.bool Bool.false], [], [(ByteArray.toList x0 == ByteArray.toList (ByteArray.mk #[])) = Bool.true, Bool.true = Bool.true, Bool.true = Bool.true]) := by kernel_rfl
theorem p19_1 (x0 : ByteArray) : runF tab ext19 false 35 [] 2000 [] tys19 Tryd.f19.results [false, true, true] [.code b19] (entE 0 0 sig19 (x0, ())) (entL sig19 (x0, ())) = some ([Dyn.mk Ty.bool Bool.false], [], [(ByteArray.toList x0 == ByteArray.toList (ByteArray.mk #[])) = Bool.false, Decidable.decide ((↑(ByteArray.size x0) : Int) > 10) = Bool.true, Bool.true = Bool.true]) := by kernel_rfl
theorem p19_2 (x0 : ByteArray) : runF tab ext19 false 35 [] 2000 [] tys19 Tryd.f19.results [false, false, true] [.code b19] (entE 0 0 sig19 (x0, ())) (entL sig19 (x0, ())) = some ([Dyn.mk Ty.bool Bool.false], [], [(ByteArray.toList x0 == ByteArray.toList (ByteArray.mk #[])) = Bool.false, Decidable.decide ((↑(ByteArray.size x0) : Int) > 10) = Bool.false, (0 : Int) ≤ (0 : Int), 0 < (↑(ByteArray.size x0) : Int), True, (!g30_0 (↑(UInt8.toNat (List.getD (Array.toList (ByteArray.data x0)) 0 0)) : Int)) = Bool.true]) := by kernel_rfl
theorem p19_3 (x0 : ByteArray) : Am.runN tab ext19 false 35 [] 2000 [] [] [0, 3] [] [false, false, false] [.code b19] (entE 0 0 sig19 (x0, ())) (entL sig19 (x0, ())) = some (cutAt b19 4, E19_4 (0) (x0), L19_4 (0) (x0), [(ByteArray.toList x0 == ByteArray.toList (ByteArray.mk #[])) = Bool.false, Decidable.decide ((↑(ByteArray.size x0) : Int) > 10) = Bool.false, (0 : Int) ≤ (0 : Int), 0 < (↑(ByteArray.size x0) : Int), True, (!g30_0 (↑(UInt8.toNat (List.getD (Array.toList (ByteArray.data x0)) 0 0)) : Int)) = Bool.false]) := by kernel_rfl
theorem p19_4 (v3 : Int) (x0 : ByteArray) : runF tab ext19 false 35 [] 2000 [] tys19 Tryd.f19.results [true, true, true] (cutAt b19 4) (E19_4 v3 x0) (L19_4 v3 x0) = some ([Dyn.mk Ty.bool Bool.false], [], [Decidable.decide (v3 < (↑(ByteArray.size x0) : Int)) = Bool.true, 0 ≤ v3, v3 < (↑(ByteArray.size x0) : Int), True, (!g30_0 (↑(UInt8.toNat (List.getD (Array.toList (ByteArray.data x0)) (Int.toNat v3) 0)) : Int)) = Bool.true, 0 ≤ v3, v3 < (↑(ByteArray.size x0) : Int), True, (!g31_0 (↑(UInt8.toNat (List.getD (Array.toList (ByteArray.data x0)) (Int.toNat v3) 0)) : Int)) = Bool.true]) := by kernel_rfl
theorem p19_5 (v3 : Int) (x0 : ByteArray) : Am.runN tab ext19 false 35 [] 2000 [] [] [0, 3] [] [true, true, false] (cutAt b19 4) (E19_4 v3 x0) (L19_4 v3 x0) = some (cutAt b19 4, E19_4 (v3 + 1) (x0), L19_4 (v3 + 1) (x0), [Decidable.decide (v3 < (↑(ByteArray.size x0) : Int)) = Bool.true, 0 ≤ v3, v3 < (↑(ByteArray.size x0) : Int), True, (!g30_0 (↑(UInt8.toNat (List.getD (Array.toList (ByteArray.data x0)) (Int.toNat v3) 0)) : Int)) = Bool.true, 0 ≤ v3, v3 < (↑(ByteArray.size x0) : Int), True, (!g31_0 (↑(UInt8.toNat (List.getD (Array.toList (ByteArray.data x0)) (Int.toNat v3) 0)) : Int)) = Bool.false, InR IntKind.i64 (v3 + 1)]) := by kernel_rfl
theorem p19_6 (v3 : Int) (x0 : ByteArray) : Am.runN tab ext19 false 35 [] 2000 [] [] [0, 3] [] [true, false, false] (cutAt b19 4) (E19_4 v3 x0) (L19_4 v3 x0) = some (cutAt b19 4, E19_4 (v3 + 1) (x0), L19_4 (v3 + 1) (x0), [Decidable.decide (v3 < (↑(ByteArray.size x0) : Int)) = Bool.true, 0 ≤ v3, v3 < (↑(ByteArray.size x0) : Int), True, (!g30_0 (↑(UInt8.toNat (List.getD (Array.toList (ByteArray.data x0)) (Int.toNat v3) 0)) : Int)) = Bool.false, Bool.false = Bool.false, InR IntKind.i64 (v3 + 1)]) := by kernel_rfl
theorem p19_7 (v3 : Int) (x0 : ByteArray) : runF tab ext19 false 35 [] 2000 [] tys19 Tryd.f19.results [false] (cutAt b19 4) (E19_4 v3 x0) (L19_4 v3 x0) = some ([Dyn.mk Ty.bool Bool.true], [], [Decidable.decide (v3 < (↑(ByteArray.size x0) : Int)) = Bool.false]) := by kernel_rfl
theorem snd19 : ∀ n, (∀ (x0 : ByteArray) ds, R19 n x0 ds → ∀ w0 O q, AtV Tryd.prog 19 (PostR ds [] [] q w0 O) 35 w0 O q [] [.code b19] (entE 0 0 sig19 (x0, ())) (entL sig19 (x0, ()))) ∧ (∀ (v3 : Int) (x0 : ByteArray) ds, R19_4 n v3 x0 ds → ∀ w0 O q, AtV Tryd.prog 19 (PostR ds [] [] q w0 O) 35 w0 O q [] (cutAt b19 4) (E19_4 v3 x0) (L19_4 v3 x0)) := by
  intro n
  induction n with
  | zero => exact ⟨fun _ _ h => by simp only [R19] at h, fun _ _ _ h => by simp only [R19_4] at h⟩
  | succ n ih =>
  obtain ⟨ih, ih4⟩ := ih
  refine ⟨?_, ?_⟩
  · intro x0 ds h w0 O q
    rw [R19] at h
    by_cases b0 : (ByteArray.toList x0 == ByteArray.toList (ByteArray.mk #[])) = true
    · rw [if_pos b0] at h
      subst h
      exact AtV.fin Tryd.func19 tabOk ext19Ok mixed (p19_0 x0) ⟨b0, rfl, rfl, trivial⟩
    · rw [if_neg b0] at h
      replace b0 := Bool.eq_false_iff.2 b0
      by_cases b1 : (Decidable.decide ((↑(ByteArray.size x0) : Int) > 10)) = true
      · rw [if_pos b1] at h
        subst h
        exact AtV.fin Tryd.func19 tabOk ext19Ok mixed (p19_1 x0) ⟨b0, b1, rfl, trivial⟩
      · rw [if_neg b1] at h
        replace b1 := Bool.eq_false_iff.2 b1
        obtain ⟨s0, h⟩ := h
        by_cases b2 : (!g30_0 (↑(UInt8.toNat (List.getD (Array.toList (ByteArray.data x0)) 0 0)) : Int)) = true
        · rw [if_pos b2] at h
          subst h
          exact AtV.fin Tryd.func19 tabOk ext19Ok mixed (p19_2 x0) ⟨b0, b1, (by decide), s0, trivial, b2, trivial⟩
        · rw [if_neg b2] at h
          replace b2 := Bool.eq_false_iff.2 b2
          exact AtV.runN tabOk ext19Ok mixed (p19_3 x0) ⟨b0, b1, (by decide), s0, trivial, b2, trivial⟩ (ih4 _ _ _ h w0 O q)

  · intro v3 x0 ds h w0 O q
    rw [R19_4] at h
    by_cases b0 : (Decidable.decide (v3 < (↑(ByteArray.size x0) : Int))) = true
    · rw [if_pos b0] at h
      obtain ⟨s0, s1, h⟩ := h
      by_cases b1 : (!g30_0 (↑(UInt8.toNat (List.getD (Array.toList (ByteArray.data x0)) (Int.toNat v3) 0)) : Int)) = true
      · rw [if_pos b1] at h
        obtain ⟨s2, s3, h⟩ := h
        by_cases b2 : (!g31_0 (↑(UInt8.toNat (List.getD (Array.toList (ByteArray.data x0)) (Int.toNat v3) 0)) : Int)) = true
        · rw [if_pos b2] at h
          subst h
          exact AtV.fin Tryd.func19 tabOk ext19Ok mixed (p19_4 v3 x0) ⟨b0, s0, s1, trivial, b1, s2, s3, trivial, b2, trivial⟩
        · rw [if_neg b2] at h
          replace b2 := Bool.eq_false_iff.2 b2
          obtain ⟨s4, h⟩ := h
          exact AtV.runN tabOk ext19Ok mixed (p19_5 v3 x0) ⟨b0, s0, s1, trivial, b1, s2, s3, trivial, b2, s4, trivial⟩ (ih4 _ _ _ h w0 O q)
      · rw [if_neg b1] at h
        replace b1 := Bool.eq_false_iff.2 b1
        obtain ⟨s2, h⟩ := h
        exact AtV.runN tabOk ext19Ok mixed (p19_6 v3 x0) ⟨b0, s0, s1, trivial, b1, rfl, s2, trivial⟩ (ih4 _ _ _ h w0 O q)
    · rw [if_neg b0] at h
      replace b0 := Bool.eq_false_iff.2 b0
      subst h
      exact AtV.fin Tryd.func19 tabOk ext19Ok mixed (p19_7 v3 x0) ⟨b0, trivial⟩



def g19_0 (x0 : ByteArray) : Bool := decide (1 ≤ x0.size) && decide (x0.size ≤ 10) && g30_0 ((bytesOf x0).getD 0 0) && (bytesOf x0).all fun b => g30_0 b || g31_0 b
def P19 (x0 : ByteArray) : Prop := True

theorem top19 (x0 : ByteArray) (hw : Wf .str x0) : R19 (x0.size + 1 + 1) x0 [⟨.bool, g19_0 x0⟩] := by
  have hl := bytesOf_length x0
  rw [R19]
  by_cases h0 : x0 = ByteArray.mk #[]
  · rw [if_pos ((bytes_eq _ _).2 h0)]
    subst h0
    rfl
  · rw [if_neg (fun h => h0 ((bytes_eq _ _).1 h))]
    have hs : 1 ≤ x0.size := by
      rcases Nat.lt_or_ge 0 x0.size with h | h
      · exact h
      · exact absurd (bytesOf_inj (s := x0) (t := ByteArray.mk #[]) (List.eq_nil_of_length_eq_zero (by rw [hl]; omega))) h0
    by_cases h1 : (x0.size : Int) > 10
    · rw [if_pos (by simpa using h1)]
      have : ¬ x0.size ≤ 10 := by omega
      simp [g19_0, this]
    · rw [if_neg (by simpa using h1)]
      refine ⟨by omega, ?_⟩
      rw [byte_get]
      cases h2 : g30_0 ((bytesOf x0).getD 0 0) with
      | false =>
        rw [if_pos (by simp)]
        simp [g19_0, h2, -List.getD_eq_getElem?_getD]
      | true =>
        rw [if_neg (by simp)]
        have key := loop_test (bytesOf x0) 0 (fun b => g30_0 b || g31_0 b) [(⟨.bool, false⟩ : Dyn)] [⟨.bool, true⟩] (fun n i ds => R19_4 n i x0 ds) (fun n => ?_) (fun n i hi hok ds hr => ?_) (fun n i hi hok => ?_)
        · rw [hl] at key
          have e : g19_0 x0 = (bytesOf x0).all fun b => g30_0 b || g31_0 b := by
            have : x0.size ≤ 10 := by omega
            unfold g19_0
            simp only [hs, this, decide_true, Bool.true_and, h2]
          rw [e]
          cases h : (bytesOf x0).all fun b => g30_0 b || g31_0 b with
          | true => rw [if_pos h] at key; exact key
          | false => rw [if_neg (by rw [h]; simp)] at key; exact key
        · show R19_4 (n + 1) ((bytesOf x0).length : Int) x0 _
          rw [R19_4, hl, if_neg (by simp)]
        · rw [R19_4, if_pos (by simp; omega)]
          simp only [Int.toNat_natCast, byte_get]
          generalize (bytesOf x0).getD i 0 = c at *
          refine ⟨by omega, by omega, ?_⟩
          have hu := inR_up (xs := bytesOf x0) (by rw [hl]; exact hw) hi
          cases h3 : g30_0 c with
          | true => rw [if_neg (by simp)]; exact ⟨hu, hr⟩
          | false =>
            rw [if_pos (by simp)]
            rw [h3, Bool.false_or] at hok
            refine ⟨by omega, by omega, ?_⟩
            rw [if_neg (by rw [hok]; simp)]
            exact ⟨hu, hr⟩
        · simp only [Bool.or_eq_false_iff] at hok
          rw [R19_4, if_pos (by simp; omega)]
          simp only [Int.toNat_natCast, byte_get]
          refine ⟨by omega, by omega, ?_⟩
          rw [if_pos (by rw [hok.1]; rfl)]
          refine ⟨by omega, by omega, ?_⟩
          rw [if_pos (by rw [hok.2]; rfl)] <;> trivial

def S19 : Am.Spec := { sig := sig19, pre := fun ⟨x0, _⟩ => P19 x0, res := fun ⟨x0, _⟩ => [⟨Ty.bool, g19_0 x0⟩] }
theorem con19 : Contract Tryd.prog 19 S19 := contract_of Tryd.func19 hb19 (Nat.le_of_ble_eq_true (by kernel_rfl)) (fun ⟨x0, _⟩ h hwf w0 O q =>
  (snd19 _).1 x0 _ (top19 x0 hwf.1) w0 O q)

end Go.Proofs.YtmigieemhbnmpaaDoor

/- Function 32 (spec.l00In): its runs between cut points. Written by a program of this repo (gen). -/
set_option linter.unusedVariables false
set_option linter.unusedSimpArgs false
set_option maxRecDepth 100000
namespace Go.Proofs.YtmigieemhbnmpaaDoor
open Go Go.Am Go.Proofs
def ext32 : Ext := []
theorem ext32Ok : ExtOk Tryd.prog ext32 := trivial
/-! Function 32. -/
noncomputable def b32 : Code := bodyOf Tryd.f32
theorem hb32 : Tryd.f32.body = some b32 := by kernel_rfl
def sig32 : List AT := [AT.v (Ty.int IntKind.i64), AT.v (Ty.int IntKind.i64), AT.v (Ty.int IntKind.i64)]
def tys32 : List Ty := [Ty.bool]
def P32 (x0 : Int) (x1 : Int) (x2 : Int) : Prop := True
def g32_0 (x0 : Int) (x1 : Int) (x2 : Int) : Bool := (if (Decidable.decide (x0 ≥ x1)) = true then Decidable.decide (x0 ≤ x2) else Bool.false)
theorem p32_0 (x0 : Int) (x1 : Int) (x2 : Int) : runF tab ext32 false 15 [] 2000 [] tys32 Tryd.f32.results [true] [.code b32] (entE 0 0 sig32 (x0, x1, x2, ())) (entL sig32 (x0, x1, x2, ())) = some ([Dyn.mk Ty.bool (Decidable.decide (x0 ≤ x2))], [], [Decidable.decide (x0 ≥ x1) = Bool.true]) := by kernel_rfl
theorem p32_1 (x0 : Int) (x1 : Int) (x2 : Int) : runF tab ext32 false 15 [] 2000 [] tys32 Tryd.f32.results [false] [.code b32] (entE 0 0 sig32 (x0, x1, x2, ())) (entL sig32 (x0, x1, x2, ())) = some ([Dyn.mk Ty.bool Bool.false], [], [Decidable.decide (x0 ≥ x1) = Bool.false]) := by kernel_rfl
theorem at32 (x0 : Int) (x1 : Int) (x2 : Int) (h : P32 x0 x1 x2) (w0 : World) (O : List Nat) (q : Nat → Value) : AtV Tryd.prog 32 (PostR [⟨Ty.bool, g32_0 x0 x1 x2⟩] [] [] q w0 O) 15 w0 O q [] [.code b32] (entE 0 0 sig32 (x0, x1, x2, ())) (entL sig32 (x0, x1, x2, ())) := by
  unfold P32 at h
  unfold g32_0
  by_cases b0 : (Decidable.decide (x0 ≥ x1)) = true
  · try simp only [if_pos b0] at h ⊢
    exact AtV.fin Tryd.func32 tabOk ext32Ok mixed (p32_0 x0 x1 x2) ⟨b0, trivial⟩
  · try simp only [if_neg b0] at h ⊢
    replace b0 := Bool.eq_false_iff.2 b0
    exact AtV.fin Tryd.func32 tabOk ext32Ok mixed (p32_1 x0 x1 x2) ⟨b0, trivial⟩

def S32 : Am.Spec := { sig := sig32, pre := fun ⟨x0, x1, x2, _⟩ => P32 x0 x1 x2, res := fun ⟨x0, x1, x2, _⟩ => [⟨Ty.bool, g32_0 x0 x1 x2⟩] }
theorem con32 : Contract Tryd.prog 32 S32 := contract_of Tryd.func32 hb32 (Nat.le_of_ble_eq_true (by kernel_rfl)) (fun ⟨x0, x1, x2, _⟩ h _ w0 O q => at32 x0 x1 x2 h w0 O q)


end Go.Proofs.YtmigieemhbnmpaaDoor

/- Function 20 (spec.l14Minute): its runs between cut points. Written by a program of this repo (gen). -/
set_option linter.unusedVariables false
set_option linter.unusedSimpArgs false
set_option maxRecDepth 100000
namespace Go.Proofs.YtmigieemhbnmpaaDoor
open Go Go.Am Go.Proofs
def ext20 : Ext := [(32, S32)]
theorem call20_32 : Callable Tryd.prog 32 := ⟨Tryd.f32, Tryd.func32, by kernel_rfl, by kernel_rfl⟩
theorem ext20Ok : ExtOk Tryd.prog ext20 := ⟨⟨call20_32, con32⟩, trivial⟩
/-! Function 20. -/
noncomputable def b20 : Code := bodyOf Tryd.f20
theorem hb20 : Tryd.f20.body = some b20 := by kernel_rfl
def sig20 : List AT := [AT.v (Ty.int IntKind.i64)]
def tys20 : List Ty := [Ty.bool]
def P20 (x0 : Int) : Prop := True
def g20_0 (x0 : Int) : Bool := g32_0 x0 0 1440
theorem p20_0 (x0 : Int) : runF tab ext20 false 5 [] 2000 [] tys20 Tryd.f20.results [] [.code b20] (entE 0 0 sig20 (x0, ())) (entL sig20 (x0, ())) = some ([Dyn.mk Ty.bool (g32_0 x0 0 1440)], [], [True]) := by kernel_rfl
theorem at20 (x0 : Int) (h : P20 x0) (w0 : World) (O : List Nat) (q : Nat → Value) : AtV Tryd.prog 20 (PostR [⟨Ty.bool, g20_0 x0⟩] [] [] q w0 O) 5 w0 O q [] [.code b20] (entE 0 0 sig20 (x0, ())) (entL sig20 (x0, ())) := by
  unfold P20 at h
  unfold g20_0
  exact AtV.fin Tryd.func20 tabOk ext20Ok mixed (p20_0 x0) ⟨trivial, trivial⟩

def S20 : Am.Spec := { sig := sig20, pre := fun ⟨x0, _⟩ => P20 x0, res := fun ⟨x0, _⟩ => [⟨Ty.bool, g20_0 x0⟩] }
theorem con20 : Contract Tryd.prog 20 S20 := contract_of Tryd.func20 hb20 (Nat.le_of_ble_eq_true (by kernel_rfl)) (fun ⟨x0, _⟩ h _ w0 O q => at20 x0 h w0 O q)


end Go.Proofs.YtmigieemhbnmpaaDoor

/- Function 13 (spec.l14Worker): its runs between cut points. Written by a program of this repo (gen). -/
set_option linter.unusedVariables false
set_option linter.unusedSimpArgs false
set_option maxRecDepth 100000
namespace Go.Proofs.YtmigieemhbnmpaaDoor
open Go Go.Am Go.Proofs
def ext13 : Ext := [(19, S19), (20, S20)]
theorem call13_19 : Callable Tryd.prog 19 := ⟨Tryd.f19, Tryd.func19, by kernel_rfl, by kernel_rfl⟩
theorem call13_20 : Callable Tryd.prog 20 := ⟨Tryd.f20, Tryd.func20, by kernel_rfl, by kernel_rfl⟩
theorem ext13Ok : ExtOk Tryd.prog ext13 := ⟨⟨call13_19, con19⟩, ⟨call13_20, con20⟩, trivial⟩
/-! Function 13. -/
noncomputable def b13 : Code := bodyOf Tryd.f13
theorem hb13 : Tryd.f13.body = some b13 := by kernel_rfl
def sig13 : List AT := [AT.p (Ty.cons Ty.str (Ty.cons (Ty.int IntKind.i64) (Ty.cons (Ty.int IntKind.i64) Ty.unit)))]
def tys13 : List Ty := [Ty.bool]
def P13 (x0 : ByteArray × Int × Int × Unit) : Prop := True
def g13_0 (x0 : ByteArray × Int × Int × Unit) : Bool := (if (g19_0 (Prod.fst x0)) = true then (if (g20_0 (Prod.fst (Prod.snd x0))) = true then (if (g20_0 (Prod.fst (Prod.snd (Prod.snd x0)))) = true then Decidable.decide (Prod.fst (Prod.snd x0) < Prod.fst (Prod.snd (Prod.snd x0))) else Bool.false) else Bool.false) else Bool.false)
theorem p13_0 (x0 : ByteArray × Int × Int × Unit) : runF tab ext13 false 33 [] 2000 [] tys13 Tryd.f13.results [true, true, true] [.code b13] (entE 0 0 sig13 (x0, ())) (entL sig13 (x0, ())) = some ([Dyn.mk Ty.bool (Decidable.decide (Prod.fst (Prod.snd x0) < Prod.fst (Prod.snd (Prod.snd x0))))], [], [True, g19_0 (Prod.fst x0) = Bool.true, True, g20_0 (Prod.fst (Prod.snd x0)) = Bool.true, True, g20_0 (Prod.fst (Prod.snd (Prod.snd x0))) = Bool.true]) := by kernel_rfl
theorem p13_1 (x0 : ByteArray × Int × Int × Unit) : runF tab ext13 false 33 [] 2000 [] tys13 Tryd.f13.results [true, true, false] [.code b13] (entE 0 0 sig13 (x0, ())) (entL sig13 (x0, ())) = some ([Dyn.mk Ty.bool Bool.false], [], [True, g19_0 (Prod.fst x0) = Bool.true, True, g20_0 (Prod.fst (Prod.snd x0)) = Bool.true, True, g20_0 (Prod.fst (Prod.snd (Prod.snd x0))) = Bool.false]) := by kernel_rfl
theorem p13_2 (x0 : ByteArray × Int × Int × Unit) : runF tab ext13 false 33 [] 2000 [] tys13 Tryd.f13.results [true, false, false] [.code b13] (entE 0 0 sig13 (x0, ())) (entL sig13 (x0, ())) = some ([Dyn.mk Ty.bool Bool.false], [], [True, g19_0 (Prod.fst x0) = Bool.true, True, g20_0 (Prod.fst (Prod.snd x0)) = Bool.false, Bool.false = Bool.false]) := by kernel_rfl
theorem p13_3 (x0 : ByteArray × Int × Int × Unit) : runF tab ext13 false 33 [] 2000 [] tys13 Tryd.f13.results [false, false, false] [.code b13] (entE 0 0 sig13 (x0, ())) (entL sig13 (x0, ())) = some ([Dyn.mk Ty.bool Bool.false], [], [True, g19_0 (Prod.fst x0) = Bool.false, Bool.false = Bool.false, Bool.false = Bool.false]) := by kernel_rfl
theorem at13 (x0 : ByteArray × Int × Int × Unit) (h : P13 x0) (w0 : World) (O : List Nat) (q : Nat → Value) : AtV Tryd.prog 13 (PostR [⟨Ty.bool, g13_0 x0⟩] [] [] q w0 O) 33 w0 O q [] [.code b13] (entE 0 0 sig13 (x0, ())) (entL sig13 (x0, ())) := by
  unfold P13 at h
  unfold g13_0
  by_cases b0 : (g19_0 (Prod.fst x0)) = true
  · try simp only [if_pos b0] at h ⊢
    by_cases b1 : (g20_0 (Prod.fst (Prod.snd x0))) = true
    · try simp only [if_pos b1] at h ⊢
      by_cases b2 : (g20_0 (Prod.fst (Prod.snd (Prod.snd x0)))) = true
      · try simp only [if_pos b2] at h ⊢
        exact AtV.fin Tryd.func13 tabOk ext13Ok mixed (p13_0 x0) ⟨trivial, b0, trivial, b1, trivial, b2, trivial⟩
      · try simp only [if_neg b2] at h ⊢
        replace b2 := Bool.eq_false_iff.2 b2
        exact AtV.fin Tryd.func13 tabOk ext13Ok mixed (p13_1 x0) ⟨trivial, b0, trivial, b1, trivial, b2, trivial⟩
    · try simp only [if_neg b1] at h ⊢
      replace b1 := Bool.eq_false_iff.2 b1
      exact AtV.fin Tryd.func13 tabOk ext13Ok mixed (p13_2 x0) ⟨trivial, b0, trivial, b1, rfl, trivial⟩
  · try simp only [if_neg b0] at h ⊢
    replace b0 := Bool.eq_false_iff.2 b0
    exact AtV.fin Tryd.func13 tabOk ext13Ok mixed (p13_3 x0) ⟨trivial, b0, rfl, rfl, trivial⟩

def S13 : Am.Spec := { sig := sig13, pre := fun ⟨x0, _⟩ => P13 x0, res := fun ⟨x0, _⟩ => [⟨Ty.bool, g13_0 x0⟩] }
theorem con13 : Contract Tryd.prog 13 S13 := contract_of Tryd.func13 hb13 (Nat.le_of_ble_eq_true (by kernel_rfl)) (fun ⟨x0, _⟩ h _ w0 O q => at13 x0 h w0 O q)


end Go.Proofs.YtmigieemhbnmpaaDoor

/- Function 7 (spec.l14ReadWorker): its runs between cut points. Written by a program of this repo (gen). -/
set_option linter.unusedVariables false
set_option linter.unusedSimpArgs false
set_option maxRecDepth 100000
namespace Go.Proofs.YtmigieemhbnmpaaDoor
open Go Go.Am Go.Proofs
def ext7 : Ext := [(11, S11), (12, S12), (13, S13)]
theorem call7_11 : Callable Tryd.prog 11 := ⟨Tryd.f11, Tryd.func11, by kernel_rfl, by kernel_rfl⟩
theorem call7_12 : Callable Tryd.prog 12 := ⟨Tryd.f12, Tryd.func12, by kernel_rfl, by kernel_rfl⟩
theorem call7_13 : Callable Tryd.prog 13 := ⟨Tryd.f13, Tryd.func13, by kernel_rfl, by kernel_rfl⟩
theorem ext7Ok : ExtOk Tryd.prog ext7 := ⟨⟨call7_11, con11⟩, ⟨call7_12, con12⟩, ⟨call7_13, con13⟩, trivial⟩
/-! Function 7. -/
noncomputable def b7 : Code := bodyOf Tryd.f7
theorem hb7 : Tryd.f7.body = some b7 := by kernel_rfl
def sig7 : List AT := [AT.v (Ty.str)]
def tys7 : List Ty := [Ty.cons Ty.str (Ty.cons (Ty.int IntKind.i64) (Ty.cons (Ty.int IntKind.i64) Ty.unit)), Ty.bool]
def P7 (x0 : ByteArray) : Prop := ((P11 x0 32) ∧ (if ((↑(List.length (g11_0 x0 32)) : Int) != 3) = true then True else ((1 < (↑(List.length (g11_0 x0 32)) : Int)) ∧ ((P12 (List.getD (g11_0 x0 32) 1 ByteArray.empty)) ∧ ((2 < (↑(List.length (g11_0 x0 32)) : Int)) ∧ ((P12 (List.getD (g11_0 x0 32) 2 ByteArray.empty)) ∧ ((0 < (↑(List.length (g11_0 x0 32)) : Int)) ∧ True)))))))
def g7_0 (x0 : ByteArray) : ByteArray × Int × Int × Unit := (if ((↑(List.length (g11_0 x0 32)) : Int) != 3) = true then (ByteArray.empty, 0, 0, ()) else (if (!g12_1 (List.getD (g11_0 x0 32) 1 ByteArray.empty)) = true then (ByteArray.empty, 0, 0, ()) else (if (!g12_1 (List.getD (g11_0 x0 32) 2 ByteArray.empty)) = true then (ByteArray.empty, 0, 0, ()) else (if (!g13_0 (List.getD (g11_0 x0 32) 0 ByteArray.empty, g12_0 (List.getD (g11_0 x0 32) 1 ByteArray.empty), g12_0 (List.getD (g11_0 x0 32) 2 ByteArray.empty), ())) = true then (ByteArray.empty, 0, 0, ()) else (List.getD (g11_0 x0 32) 0 ByteArray.empty, g12_0 (List.getD (g11_0 x0 32) 1 ByteArray.empty), g12_0 (List.getD (g11_0 x0 32) 2 ByteArray.empty), ())))))
def g7_1 (x0 : ByteArray) : Bool := (if ((↑(List.length (g11_0 x0 32)) : Int) != 3) = true then Bool.false else (if (!g12_1 (List.getD (g11_0 x0 32) 1 ByteArray.empty)) = true then Bool.false else (if (!g12_1 (List.getD (g11_0 x0 32) 2 ByteArray.empty)) = true then Bool.false else (if (!g13_0 (List.getD (g11_0 x0 32) 0 ByteArray.empty, g12_0 (List.getD (g11_0 x0 32) 1 ByteArray.empty), g12_0 (List.getD (g11_0 x0 32) 2 ByteArray.empty), ())) = true then Bool.false else Bool.true))))
theorem p7_0 (x0 : ByteArray) : runF tab ext7 false 48 [] 2000 [] tys7 Tryd.f7.results [true] [.code b7] (entE 0 0 sig7 (x0, ())) (entL sig7 (x0, ())) = some ([Dyn.mk (Ty.cons Ty.str (Ty.cons (Ty.int IntKind.i64) (Ty.cons (Ty.int IntKind.i64) Ty.unit))) (ByteArray.empty, 0, 0, ()), Dyn.mk Ty.bool Bool.false], [], [P11 x0 32, ((↑(List.length (g11_0 x0 32)) : Int) != 3) = Bool.true]) := by kernel_rfl
theorem p7_1 (x0 : ByteArray) : runF tab ext7 false 48 [] 2000 [] tys7 Tryd.f7.results [false, true, true, true] [.code b7] (entE 0 0 sig7 (x0, ())) (entL sig7 (x0, ())) = some ([Dyn.mk (Ty.cons Ty.str (Ty.cons (Ty.int IntKind.i64) (Ty.cons (Ty.int IntKind.i64) Ty.unit))) (ByteArray.empty, 0, 0, ()), Dyn.mk Ty.bool Bool.false], [], [P11 x0 32, ((↑(List.length (g11_0 x0 32)) : Int) != 3) = Bool.false, (0 : Int) ≤ (1 : Int), 1 < (↑(List.length (g11_0 x0 32)) : Int), P12 (List.getD (g11_0 x0 32) 1 ByteArray.empty), (0 : Int) ≤ (2 : Int), 2 < (↑(List.length (g11_0 x0 32)) : Int), P12 (List.getD (g11_0 x0 32) 2 ByteArray.empty), (0 : Int) ≤ (0 : Int), 0 < (↑(List.length (g11_0 x0 32)) : Int), (!g12_1 (List.getD (g11_0 x0 32) 1 ByteArray.empty)) = Bool.true, Bool.true = Bool.true, Bool.true = Bool.true]) := by kernel_rfl
theorem p7_2 (x0 : ByteArray) : runF tab ext7 false 48 [] 2000 [] tys7 Tryd.f7.results [false, false, true, true] [.code b7] (entE 0 0 sig7 (x0, ())) (entL sig7 (x0, ())) = some ([Dyn.mk (Ty.cons Ty.str (Ty.cons (Ty.int IntKind.i64) (Ty.cons (Ty.int IntKind.i64) Ty.unit))) (ByteArray.empty, 0, 0, ()), Dyn.mk Ty.bool Bool.false], [], [P11 x0 32, ((↑(List.length (g11_0 x0 32)) : Int) != 3) = Bool.false, (0 : Int) ≤ (1 : Int), 1 < (↑(List.length (g11_0 x0 32)) : Int), P12 (List.getD (g11_0 x0 32) 1 ByteArray.empty), (0 : Int) ≤ (2 : Int), 2 < (↑(List.length (g11_0 x0 32)) : Int), P12 (List.getD (g11_0 x0 32) 2 ByteArray.empty), (0 : Int) ≤ (0 : Int), 0 < (↑(List.length (g11_0 x0 32)) : Int), (!g12_1 (List.getD (g11_0 x0 32) 1 ByteArray.empty)) = Bool.false, (!g12_1 (List.getD (g11_0 x0 32) 2 ByteArray.empty)) = Bool.true, Bool.true = Bool.true]) := by kernel_rfl
theorem p7_3 (x0 : ByteArray) : runF tab ext7 false 48 [] 2000 [] tys7 Tryd.f7.results [false, false, false, true] [.code b7] (entE 0 0 sig7 (x0, ())) (entL sig7 (x0, ())) = some ([Dyn.mk (Ty.cons Ty.str (Ty.cons (Ty.int IntKind.i64) (Ty.cons (Ty.int IntKind.i64) Ty.unit))) (ByteArray.empty, 0, 0, ()), Dyn.mk Ty.bool Bool.false], [], [P11 x0 32, ((↑(List.length (g11_0 x0 32)) : Int) != 3) = Bool.false, (0 : Int) ≤ (1 : Int), 1 < (↑(List.length (g11_0 x0 32)) : Int), P12 (List.getD (g11_0 x0 32) 1 ByteArray.empty), (0 : Int) ≤ (2 : Int), 2 < (↑(List.length (g11_0 x0 32)) : Int), P12 (List.getD (g11_0 x0 32) 2 ByteArray.empty), (0 : Int) ≤ (0 : Int), 0 < (↑(List.length (g11_0 x0 32)) : Int), (!g12_1 (List.getD (g11_0 x0 32) 1 ByteArray.empty)) = Bool.false, (!g12_1 (List.getD (g11_0 x0 32) 2 ByteArray.empty)) = Bool.false, True, (!g13_0 (List.getD (g11_0 x0 32) 0 ByteArray.empty, g12_0 (List.getD (g11_0 x0 32) 1 ByteArray.empty), g12_0 (List.getD (g11_0 x0 32) 2 ByteArray.empty), ())) = Bool.true]) := by kernel_rfl
theorem p7_4 (x0 : ByteArray) : runF tab ext7 false 48 [] 2000 [] tys7 Tryd.f7.results [false, false, false, false] [.code b7] (entE 0 0 sig7 (x0, ())) (entL sig7 (x0, ())) = some ([Dyn.mk (Ty.cons Ty.str (Ty.cons (Ty.int IntKind.i64) (Ty.cons (Ty.int IntKind.i64) Ty.unit))) (List.getD (g11_0 x0 32) 0 ByteArray.empty, g12_0 (List.getD (g11_0 x0 32) 1 ByteArray.empty), g12_0 (List.getD (g11_0 x0 32) 2 ByteArray.empty), ()), Dyn.mk Ty.bool Bool.true], [], [P11 x0 32, ((↑(List.length (g11_0 x0 32)) : Int) != 3) = Bool.false, (0 : Int) ≤ (1 : Int), 1 < (↑(List.length (g11_0 x0 32)) : Int), P12 (List.getD (g11_0 x0 32) 1 ByteArray.empty), (0 : Int) ≤ (2 : Int), 2 < (↑(List.length (g11_0 x0 32)) : Int), P12 (List.getD (g11_0 x0 32) 2 ByteArray.empty), (0 : Int) ≤ (0 : Int), 0 < (↑(List.length (g11_0 x0 32)) : Int), (!g12_1 (List.getD (g11_0 x0 32) 1 ByteArray.empty)) = Bool.false, (!g12_1 (List.getD (g11_0 x0 32) 2 ByteArray.empty)) = Bool.false, True, (!g13_0 (List.getD (g11_0 x0 32) 0 ByteArray.empty, g12_0 (List.getD (g11_0 x0 32) 1 ByteArray.empty), g12_0 (List.getD (g11_0 x0 32) 2 ByteArray.empty), ())) = Bool.false]) := by kernel_rfl
theorem at7 (x0 : ByteArray) (h : P7 x0) (w0 : World) (O : List Nat) (q : Nat → Value) : AtV Tryd.prog 7 (PostR [⟨Ty.cons Ty.str (Ty.cons (Ty.int IntKind.i64) (Ty.cons (Ty.int IntKind.i64) Ty.unit)), g7_0 x0⟩, ⟨Ty.bool, g7_1 x0⟩] [] [] q w0 O) 48 w0 O q [] [.code b7] (entE 0 0 sig7 (x0, ())) (entL sig7 (x0, ())) := by
  unfold P7 at h
  unfold g7_0 g7_1
  obtain ⟨s0, h⟩ := h
  by_cases b0 : ((↑(List.length (g11_0 x0 32)) : Int) != 3) = true
  · try simp only [if_pos b0] at h ⊢
    exact AtV.fin Tryd.func7 tabOk ext7Ok mixed (p7_0 x0) ⟨s0, b0, trivial⟩
  · try simp only [if_neg b0] at h ⊢
    replace b0 := Bool.eq_false_iff.2 b0
    obtain ⟨s1, h⟩ := h
    obtain ⟨s2, h⟩ := h
    obtain ⟨s3, h⟩ := h
    obtain ⟨s4, h⟩ := h
    obtain ⟨s5, h⟩ := h
    by_cases b1 : (!g12_1 (List.getD (g11_0 x0 32) 1 ByteArray.empty)) = true
    · try simp only [if_pos b1] at h ⊢
      exact AtV.fin Tryd.func7 tabOk ext7Ok mixed (p7_1 x0) ⟨s0, b0, (by decide), s1, s2, (by decide), s3, s4, (by decide), s5, b1, rfl, rfl, trivial⟩
    · try simp only [if_neg b1] at h ⊢
      replace b1 := Bool.eq_false_iff.2 b1
      by_cases b2 : (!g12_1 (List.getD (g11_0 x0 32) 2 ByteArray.empty)) = true
      · try simp only [if_pos b2] at h ⊢
        exact AtV.fin Tryd.func7 tabOk ext7Ok mixed (p7_2 x0) ⟨s0, b0, (by decide), s1, s2, (by decide), s3, s4, (by decide), s5, b1, b2, rfl, trivial⟩
      · try simp only [if_neg b2] at h ⊢
        replace b2 := Bool.eq_false_iff.2 b2
        by_cases b3 : (!g13_0 (List.getD (g11_0 x0 32) 0 ByteArray.empty, g12_0 (List.getD (g11_0 x0 32) 1 ByteArray.empty), g12_0 (List.getD (g11_0 x0 32) 2 ByteArray.empty), ())) = true
        · try simp only [if_pos b3] at h ⊢
          exact AtV.fin Tryd.func7 tabOk ext7Ok mixed (p7_3 x0) ⟨s0, b0, (by decide), s1, s2, (by decide), s3, s4, (by decide), s5, b1, b2, trivial, b3, trivial⟩
        · try simp only [if_neg b3] at h ⊢
          replace b3 := Bool.eq_false_iff.2 b3
          exact AtV.fin Tryd.func7 tabOk ext7Ok mixed (p7_4 x0) ⟨s0, b0, (by decide), s1, s2, (by decide), s3, s4, (by decide), s5, b1, b2, trivial, b3, trivial⟩

def S7 : Am.Spec := { sig := sig7, pre := fun ⟨x0, _⟩ => P7 x0, res := fun ⟨x0, _⟩ => [⟨Ty.cons Ty.str (Ty.cons (Ty.int IntKind.i64) (Ty.cons (Ty.int IntKind.i64) Ty.unit)), g7_0 x0⟩, ⟨Ty.bool, g7_1 x0⟩] }
theorem con7 : Contract Tryd.prog 7 S7 := contract_of Tryd.func7 hb7 (Nat.le_of_ble_eq_true (by kernel_rfl)) (fun ⟨x0, _⟩ h _ w0 O q => at7 x0 h w0 O q)


end Go.Proofs.YtmigieemhbnmpaaDoor

/- Function 4 (spec.ReadWorker): its runs between cut points. Written by a program of this repo (gen). -/
set_option linter.unusedVariables false
set_option linter.unusedSimpArgs false
set_option maxRecDepth 100000
namespace Go.Proofs.YtmigieemhbnmpaaDoor
open Go Go.Am Go.Proofs
def ext4 : Ext := [(7, S7)]
theorem call4_7 : Callable Tryd.prog 7 := ⟨Tryd.f7, Tryd.func7, by kernel_rfl, by kernel_rfl⟩
theorem ext4Ok : ExtOk Tryd.prog ext4 := ⟨⟨call4_7, con7⟩, trivial⟩
/-! Function 4. -/
noncomputable def b4 : Code := bodyOf Tryd.f4
theorem hb4 : Tryd.f4.body = some b4 := by kernel_rfl
def sig4 : List AT := [AT.v (Ty.str)]
def tys4 : List Ty := [Ty.cons Ty.str (Ty.cons (Ty.int IntKind.i64) (Ty.cons (Ty.int IntKind.i64) Ty.unit)), Ty.bool]
def P4 (x0 : ByteArray) : Prop := ((P7 x0) ∧ True)
def g4_0 (x0 : ByteArray) : ByteArray × Int × Int × Unit := g7_0 x0
def g4_1 (x0 : ByteArray) : Bool := g7_1 x0
theorem p4_0 (x0 : ByteArray) : runF tab ext4 false 8 [] 2000 [] tys4 Tryd.f4.results [] [.code b4] (entE 0 0 sig4 (x0, ())) (entL sig4 (x0, ())) = some ([Dyn.mk (Ty.cons Ty.str (Ty.cons (Ty.int IntKind.i64) (Ty.cons (Ty.int IntKind.i64) Ty.unit))) (g7_0 x0), Dyn.mk Ty.bool (g7_1 x0)], [], [P7 x0]) := by kernel_rfl
theorem at4 (x0 : ByteArray) (h : P4 x0) (w0 : World) (O : List Nat) (q : Nat → Value) : AtV Tryd.prog 4 (PostR [⟨Ty.cons Ty.str (Ty.cons (Ty.int IntKind.i64) (Ty.cons (Ty.int IntKind.i64) Ty.unit)), g4_0 x0⟩, ⟨Ty.bool, g4_1 x0⟩] [] [] q w0 O) 8 w0 O q [] [.code b4] (entE 0 0 sig4 (x0, ())) (entL sig4 (x0, ())) := by
  unfold P4 at h
  unfold g4_0 g4_1
  obtain ⟨s0, h⟩ := h
  exact AtV.fin Tryd.func4 tabOk ext4Ok mixed (p4_0 x0) ⟨s0, trivial⟩

def S4 : Am.Spec := { sig := sig4, pre := fun ⟨x0, _⟩ => P4 x0, res := fun ⟨x0, _⟩ => [⟨Ty.cons Ty.str (Ty.cons (Ty.int IntKind.i64) (Ty.cons (Ty.int IntKind.i64) Ty.unit)), g4_0 x0⟩, ⟨Ty.bool, g4_1 x0⟩] }
theorem con4 : Contract Tryd.prog 4 S4 := contract_of Tryd.func4 hb4 (Nat.le_of_ble_eq_true (by kernel_rfl)) (fun ⟨x0, _⟩ h _ w0 O q => at4 x0 h w0 O q)


end Go.Proofs.YtmigieemhbnmpaaDoor

/- Function 8 (strings.Split): its contract, off what is known of the library. -/
set_option linter.unusedVariables false
set_option linter.unusedSimpArgs false
set_option maxRecDepth 100000
namespace Go.Proofs.YtmigieemhbnmpaaDoor
open Go Go.Am Go.Proofs

def sig8 : List AT := [AT.v Ty.str, AT.v Ty.str]
def g8_0 (x0 x1 : ByteArray) : List ByteArray := Lib.splitB x1 0 (Lib.countB x0 x1) x0
def P8 (x0 x1 : ByteArray) : Prop := x0.size < 4294967281 ∧ 1 ≤ x1.size
def S8 : Am.Spec := { sig := sig8, pre := fun ⟨x0, x1, _⟩ => P8 x0 x1, res := fun ⟨x0, x1, _⟩ => [⟨Ty.sl Ty.str, g8_0 x0 x1⟩] }

theorem con8 : Contract Tryd.prog 8 S8 := by
  rintro w ⟨x0, x1, u⟩ vs bss hgo hp ⟨v0, s0, b0, bs0, rfl, rfl, ⟨rfl, rfl, _⟩, v1, s1, b1, bs1, rfl, rfl, ⟨rfl, rfl, _⟩, rfl, rfl⟩ hn
  obtain ⟨hs, h1⟩ : x0.size < 4294967281 ∧ 1 ≤ x1.size := hp
  obtain ⟨m, hm⟩ := maxLenG hgo.inv
  refine (Tryd.strings_Split x0 x1 m w hs hm h1).mono ?_
  rintro e w' ⟨rfl, rfl⟩
  have hlen : (g8_0 x0 x1).length = Lib.countB x0 x1 + 1 := Lib.splitB_all x1 h1 0 _ _ rfl
  have hle := Lib.countB_le x1 h1 x0.size x0 (Nat.le_refl _)
  have hparts : ∀ y ∈ g8_0 x0 x1, y.size ≤ maxLen := fun y hy => by
    have := splitB_part x1 0 _ _ y hy
    unfold maxLen; omega
  have e1 : ∀ xs : List ByteArray, fcs .str xs = xs.map Value.string := by
    intro xs
    induction xs with
    | nil => rfl
    | cons a r ih => unfold fcs at ih ⊢; rw [List.map_cons, List.flatten_cons, ih]; rfl
  have ho : OwnC (w.alloc (.cells ((g8_0 x0 x1).map Value.string).toArray 9)) (.sl .str) (g8_0 x0 x1) [.slice (some ⟨w.heap.size, 0, none⟩) (Lib.countB x0 x1 + 1) (Lib.countB x0 x1 + 1)] [w.heap.size] :=
    own_flat_mk rfl hparts hlen.symm (Nat.le_of_eq hlen) (by unfold maxLen; omega) (by rw [List.size_toArray, List.length_map, hlen]; simp [Ty.size]) (heap_new w _) (freeS_zero _ _) (fun j u hj => by
      rw [e1] at hj
      rw [Nat.zero_add, ← Array.getElem?_toList]
      exact hj)
  refine ⟨[_], [], [[w.heap.size]], rfl, (Kept.refl _ _).alloc _, ⟨_, _, _, _, _, rfl, rfl, ho, rfl, rfl, rfl⟩, ⟨rfl, rfl⟩, by simp, fun b hb hg => ?_⟩
  simp at hb
  have := hg.1
  omega

end Go.Proofs.YtmigieemhbnmpaaDoor

/- Function 24 (strings.Cut): its contract, off what is known of the library. -/
set_option linter.unusedVariables false
set_option linter.unusedSimpArgs false
set_option maxRecDepth 100000
namespace Go.Proofs.YtmigieemhbnmpaaDoor
open Go Go.Am Go.Proofs

def sig24 : List AT := [AT.v Ty.str, AT.v Ty.str]
def g24_0 (x0 x1 : ByteArray) : ByteArray := ⟨(Lib.cut x0.data.toList x1.data.toList).1.toArray⟩
def g24_1 (x0 x1 : ByteArray) : ByteArray := ⟨(Lib.cut x0.data.toList x1.data.toList).2.1.toArray⟩
def g24_2 (x0 x1 : ByteArray) : Bool := (Lib.cut x0.data.toList x1.data.toList).2.2
def P24 (x0 x1 : ByteArray) : Prop := x0.size < 4294967281
def S24 : Am.Spec := { sig := sig24, pre := fun ⟨x0, x1, _⟩ => P24 x0 x1, res := fun ⟨x0, x1, _⟩ => [⟨Ty.str, g24_0 x0 x1⟩, ⟨Ty.str, g24_1 x0 x1⟩, ⟨Ty.bool, g24_2 x0 x1⟩] }
theorem cutLen24 (s sep : List UInt8) : (Lib.cut s sep).1.length ≤ s.length ∧ (Lib.cut s sep).2.1.length ≤ s.length := by
  unfold Lib.cut
  split
  · exact ⟨by simp; omega, by simp⟩
  · exact ⟨Nat.le_refl _, Nat.zero_le _⟩
theorem con24 : Contract Tryd.prog 24 S24 := contract_flat rfl fun w ⟨x0, x1, _⟩ vs bss hg hp hw ha => by
  obtain ⟨v0, s0, _, _, rfl, _, ⟨_, rfl, _⟩, v1, s1, _, _, rfl, _, ⟨_, rfl, _⟩, rfl, _⟩ := ha
  have hp : x0.size < 4294967281 := hp
  obtain ⟨l1, l2⟩ := cutLen24 x0.data.toList x1.data.toList
  have e : x0.data.toList.length = x0.size := rfl
  refine ⟨fun d hd => ?_, ?_⟩
  · simp only [S24, List.mem_cons, List.mem_nil_iff, or_false] at hd
    rcases hd with rfl | rfl | rfl
    · refine ⟨rfl, ?_⟩
      show (List.toArray _).size ≤ maxLen
      rw [List.size_toArray]; unfold maxLen; omega
    · refine ⟨rfl, ?_⟩
      show (List.toArray _).size ≤ maxLen
      rw [List.size_toArray]; unfold maxLen; omega
    · exact ⟨rfl, trivial⟩
  · obtain ⟨m, hm⟩ := maxLenG hg
    refine (Tryd.strings_Cut x0 x1 m w hp hm).mono ?_
    rintro e w' ⟨rfl, n, rfl⟩
    exact ⟨rfl, ⟨rfl, rfl, rfl, Nat.le_refl _, fun _ _ _ => rfl⟩⟩

end Go.Proofs.YtmigieemhbnmpaaDoor

/- Function 25 (impl.number): its runs between cut points. Written by a program of this repo (gen). -/
set_option linter.unusedVariables false
set_option linter.unusedSimpArgs false
set_option maxRecDepth 100000
namespace Go.Proofs.YtmigieemhbnmpaaDoor
open Go Go.Am Go.Proofs
def ext25 : Ext := []
theorem ext25Ok : ExtOk Tryd.prog ext25 := trivial
/-! Function 25. -/
noncomputable def b25 : Code := bodyOf Tryd.f25
theorem hb25 : Tryd.f25.body = some b25 := by kernel_rfl
def sig25 : List AT := [AT.v (Ty.str)]
def tys25 : List Ty := [Ty.int IntKind.i64]
def E25_5 (v3 : Int) (v17 : Int) (x0 : ByteArray) : Env := [(3, PV.a (Atom.val (Value.int IntKind.i64 v3))), (15, PV.a (Atom.osl 0 Option.none)), (16, PV.a (Atom.val (Value.int IntKind.i64 (↑(List.length (bytesOf x0)) : Int)))), (17, PV.a (Atom.val (Value.int IntKind.i64 v17)))]
def L25_5 (v3 : Int) (v17 : Int) (x0 : ByteArray) : Heap := [Option.some (Arr.mk (Ty.int IntKind.u8) (bytesOf x0) Bool.false)]
mutual
def R25 : Nat → ByteArray → List Dyn → Prop
  | 0, _, _ => False
  | n + 1, x0, ds => (if (Decidable.decide ((↑(ByteArray.size x0) : Int) < 1)) = true then (ds = [Dyn.mk (Ty.int IntKind.i64) (-1)]) else (if (Decidable.decide ((↑(ByteArray.size x0) : Int) > 12)) = true then (ds = [Dyn.mk (Ty.int IntKind.i64) (-1)]) else (R25_5 n (0) (0) (x0) ds)))
def R25_5 : Nat → Int → Int → ByteArray → List Dyn → Prop
  | 0, _, _, _, _ => False
  | n + 1, v3, v17, x0, ds => (if (Decidable.decide (v17 < (↑(List.length (bytesOf x0)) : Int))) = true then ((0 ≤ v17) ∧ (v17 < (↑(List.length (bytesOf x0)) : Int)) ∧ (if (Decidable.decide (List.getD (bytesOf x0) (Int.toNat v17) 0 < 48)) = true then (ds = [Dyn.mk (Ty.int IntKind.i64) (-1)]) else (if (Decidable.decide (List.getD (bytesOf x0) (Int.toNat v17) 0 > 57)) = true then (ds = [Dyn.mk (Ty.int IntKind.i64) (-1)]) else ((InR IntKind.i64 (10 * v3)) ∧ ((InR IntKind.u8 (List.getD (bytesOf x0) (Int.toNat v17) 0 - 48)) ∧ ((InR IntKind.i64 (List.getD (bytesOf x0) (Int.toNat v17) 0 - 48)) ∧ ((InR IntKind.i64 (10 * v3 + (List.getD (bytesOf x0) (Int.toNat v17) 0 - 48))) ∧ ((InR IntKind.i64 (v17 + 1)) ∧ (R25_5 n (10 * v3 + (List.getD (bytesOf x0) (Int.toNat v17) 0 - 48)) (v17 + 1) (x0) ds))))))))) else (ds = [Dyn.mk (Ty.int IntKind.i64) v3]))
end
theorem p25_0 (x0 : ByteArray) : runF tab ext25 false 35 [] 2000 [] tys25 Tryd.f25.results [true, true] [.code b25] (entE 0 0 sig25 (x0, ())) (entL sig25 (x0, ())) = some ([Dyn.mk (Ty.int IntKind.i64) (-1)], [], [Decidable.decide ((↑(ByteArray.size x0) : Int) < 1) = Bool.true, Bool.true = Bool.true]) := by kernel_rfl
theorem p25_1 (x0 : ByteArray) : runF tab ext25 false 35 [] 2000 [] tys25 Tryd.f25.results [false, true] [.code b25] (entE 0 0 sig25 (x0, ())) (entL sig25 (x0, ())) = some ([Dyn.mk (Ty.int IntKind.i64) (-1)], [], [Decidable.decide ((↑(ByteArray.size x0) : Int) < 1) = Bool.false, Decidable.decide ((↑(ByteArray.size x0) : Int) > 12) = Bool.true]) := by kernel_rfl
theorem p25_2 (x0 : ByteArray) : Am.runN tab ext25 false 35 [] 2000 [] [] [3, 15, 16, 17] [0] [false, false] [.code b25] (entE 0 0 sig25 (x0, ())) (entL sig25 (x0, ())) = some (cutAt b25 5, E25_5 (0) (0) (x0), L25_5 (0) (0) (x0), [Decidable.decide ((↑(ByteArray.size x0) : Int) < 1) = Bool.false, Decidable.decide ((↑(ByteArray.size x0) : Int) > 12) = Bool.false]) := by kernel_rfl
theorem p25_3 (v3 : Int) (v17 : Int) (x0 : ByteArray) : runF tab ext25 false 35 [] 2000 [] tys25 Tryd.f25.results [true, true, true] (cutAt b25 5) (E25_5 v3 v17 x0) (L25_5 v3 v17 x0) = some ([Dyn.mk (Ty.int IntKind.i64) (-1)], [], [Decidable.decide (v17 < (↑(List.length (bytesOf x0)) : Int)) = Bool.true, 0 ≤ v17, v17 < (↑(List.length (bytesOf x0)) : Int), Decidable.decide (List.getD (bytesOf x0) (Int.toNat v17) 0 < 48) = Bool.true, Bool.true = Bool.true]) := by kernel_rfl
theorem p25_4 (v3 : Int) (v17 : Int) (x0 : ByteArray) : runF tab ext25 false 35 [] 2000 [] tys25 Tryd.f25.results [true, false, true] (cutAt b25 5) (E25_5 v3 v17 x0) (L25_5 v3 v17 x0) = some ([Dyn.mk (Ty.int IntKind.i64) (-1)], [], [Decidable.decide (v17 < (↑(List.length (bytesOf x0)) : Int)) = Bool.true, 0 ≤ v17, v17 < (↑(List.length (bytesOf x0)) : Int), Decidable.decide (List.getD (bytesOf x0) (Int.toNat v17) 0 < 48) = Bool.false, Decidable.decide (List.getD (bytesOf x0) (Int.toNat v17) 0 > 57) = Bool.true]) := by kernel_rfl
theorem p25_5 (v3 : Int) (v17 : Int) (x0 : ByteArray) : Am.runN tab ext25 false 35 [] 2000 [] [] [3, 15, 16, 17] [0] [true, false, false] (cutAt b25 5) (E25_5 v3 v17 x0) (L25_5 v3 v17 x0) = some (cutAt b25 5, E25_5 (10 * v3 + (List.getD (bytesOf x0) (Int.toNat v17) 0 - 48)) (v17 + 1) (x0), L25_5 (10 * v3 + (List.getD (bytesOf x0) (Int.toNat v17) 0 - 48)) (v17 + 1) (x0), [Decidable.decide (v17 < (↑(List.length (bytesOf x0)) : Int)) = Bool.true, 0 ≤ v17, v17 < (↑(List.length (bytesOf x0)) : Int), Decidable.decide (List.getD (bytesOf x0) (Int.toNat v17) 0 < 48) = Bool.false, Decidable.decide (List.getD (bytesOf x0) (Int.toNat v17) 0 > 57) = Bool.false, InR IntKind.i64 (10 * v3), InR IntKind.u8 (List.getD (bytesOf x0) (Int.toNat v17) 0 - 48), InR IntKind.i64 (List.getD (bytesOf x0) (Int.toNat v17) 0 - 48), InR IntKind.i64 (10 * v3 + (List.getD (bytesOf x0) (Int.toNat v17) 0 - 48)), InR IntKind.i64 (v17 + 1)]) := by kernel_rfl
theorem p25_6 (v3 : Int) (v17 : Int) (x0 : ByteArray) : runF tab ext25 false 35 [] 2000 [] tys25 Tryd.f25.results [false] (cutAt b25 5) (E25_5 v3 v17 x0) (L25_5 v3 v17 x0) = some ([Dyn.mk (Ty.int IntKind.i64) v3], [], [Decidable.decide (v17 < (↑(List.length (bytesOf x0)) : Int)) = Bool.false]) := by kernel_rfl
theorem snd25 : ∀ n, (∀ (x0 : ByteArray) ds, R25 n x0 ds → ∀ w0 O q, AtV Tryd.prog 25 (PostR ds [] [] q w0 O) 35 w0 O q [] [.code b25] (entE 0 0 sig25 (x0, ())) (entL sig25 (x0, ()))) ∧ (∀ (v3 : Int) (v17 : Int) (x0 : ByteArray) ds, R25_5 n v3 v17 x0 ds → ∀ w0 O q, AtV Tryd.prog 25 (PostR ds [] [] q w0 O) 35 w0 O q [] (cutAt b25 5) (E25_5 v3 v17 x0) (L25_5 v3 v17 x0)) := by
  intro n
  induction n with
  | zero => exact ⟨fun _ _ h => by simp only [R25] at h, fun _ _ _ _ h => by simp only [R25_5] at h⟩
  | succ n ih =>
  obtain ⟨ih, ih5⟩ := ih
  refine ⟨?_, ?_⟩
  · intro x0 ds h w0 O q
    rw [R25] at h
    by_cases b0 : (Decidable.decide ((↑(ByteArray.size x0) : Int) < 1)) = true
    · rw [if_pos b0] at h
      subst h
      exact AtV.fin Tryd.func25 tabOk ext25Ok mixed (p25_0 x0) ⟨b0, rfl, trivial⟩
    · rw [if_neg b0] at h
      replace b0 := Bool.eq_false_iff.2 b0
      by_cases b1 : (Decidable.decide ((↑(ByteArray.size x0) : Int) > 12)) = true
      · rw [if_pos b1] at h
        subst h
        exact AtV.fin Tryd.func25 tabOk ext25Ok mixed (p25_1 x0) ⟨b0, b1, trivial⟩
      · rw [if_neg b1] at h
        replace b1 := Bool.eq_false_iff.2 b1
        exact AtV.runN tabOk ext25Ok mixed (p25_2 x0) ⟨b0, b1, trivial⟩ (ih5 _ _ _ _ h w0 O q)

  · intro v3 v17 x0 ds h w0 O q
    rw [R25_5] at h
    by_cases b0 : (Decidable.decide (v17 < (↑(List.length (bytesOf x0)) : Int))) = true
    · rw [if_pos b0] at h
      obtain ⟨s0, s1, h⟩ := h
      by_cases b1 : (Decidable.decide (List.getD (bytesOf x0) (Int.toNat v17) 0 < 48)) = true
      · rw [if_pos b1] at h
        subst h
        exact AtV.fin Tryd.func25 tabOk ext25Ok mixed (p25_3 v3 v17 x0) ⟨b0, s0, s1, b1, rfl, trivial⟩
      · rw [if_neg b1] at h
        replace b1 := Bool.eq_false_iff.2 b1
        by_cases b2 : (Decidable.decide (List.getD (bytesOf x0) (Int.toNat v17) 0 > 57)) = true
        · rw [if_pos b2] at h
          subst h
          exact AtV.fin Tryd.func25 tabOk ext25Ok mixed (p25_4 v3 v17 x0) ⟨b0, s0, s1, b1, b2, trivial⟩
        · rw [if_neg b2] at h
          replace b2 := Bool.eq_false_iff.2 b2
          obtain ⟨s2, h⟩ := h
          obtain ⟨s3, h⟩ := h
          obtain ⟨s4, h⟩ := h
          obtain ⟨s5, h⟩ := h
          obtain ⟨s6, h⟩ := h
          exact AtV.runN tabOk ext25Ok mixed (p25_5 v3 v17 x0) ⟨b0, s0, s1, b1, b2, s2, s3, s4, s5, s6, trivial⟩ (ih5 _ _ _ _ h w0 O q)
    · rw [if_neg b0] at h
      replace b0 := Bool.eq_false_iff.2 b0
      subst h
      exact AtV.fin Tryd.func25 tabOk ext25Ok mixed (p25_6 v3 v17 x0) ⟨b0, trivial⟩



def num25 : List UInt8 → Int → Int
  | [], n => n
  | b :: r, n => if decide (48 ≤ b.toNat) && decide (b.toNat ≤ 57) then num25 r (10 * n + ((b.toNat : Int) - 48)) else -1
def g25_0 (x0 : ByteArray) : Int := if x0.size < 1 ∨ 12 < x0.size then -1 else num25 x0.data.toList 0
def P25 (x0 : ByteArray) : Prop := True

theorem run25 (x0 : ByteArray) (hs : x0.size ≤ 12) : ∀ (k i m : Nat), i + k = x0.size → m < 10 ^ i →
    R25_5 (k + 1) (m : Int) (i : Int) x0 [⟨.int .i64, num25 (x0.data.toList.drop i) (m : Int)⟩] := by
  intro k
  have hll : x0.data.toList.length = x0.size := rfl
  have hbl : (bytesOf x0).length = x0.size := by unfold bytesOf; rw [List.length_map]; rfl
  induction k with
  | zero =>
    intro i m hi hm
    rw [R25_5, if_neg (by rw [hbl]; simp; omega), List.drop_of_length_le (by omega)]
    rfl
  | succ k ih =>
    intro i m hi hm
    have hlt : i < x0.data.toList.length := by rw [hll]; omega
    have hcons : x0.data.toList.drop i = x0.data.toList.getD i 0 :: x0.data.toList.drop (i + 1) := drop_get _ i 0 hlt
    have hbyte : (bytesOf x0).getD i 0 = ((x0.data.toList.getD i 0).toNat : Int) := by
      unfold bytesOf
      rw [List.getD_eq_getElem?_getD, List.getD_eq_getElem?_getD, List.getElem?_map, List.getElem?_eq_getElem hlt]
      rfl
    rw [R25_5, if_pos (by rw [hbl]; simp; omega), hcons]
    simp only [Int.toNat_natCast, hbyte, hbl]
    generalize x0.data.toList.getD i 0 = b at *
    refine ⟨by omega, by omega, ?_⟩
    unfold num25
    by_cases h1 : b.toNat < 48
    · have h1' : (b.toNat : Int) < 48 := by omega
      have h1'' : ¬ 48 ≤ b.toNat := by omega
      simp [h1', h1'']
    · have h1' : ¬ (b.toNat : Int) < 48 := by omega
      have h1'' : 48 ≤ b.toNat := by omega
      by_cases h2 : b.toNat > 57
      · have h2' : (b.toNat : Int) > 57 := by omega
        have h2'' : ¬ b.toNat ≤ 57 := by omega
        simp [h1', h2', h2'']
      · have h2' : ¬ (b.toNat : Int) > 57 := by omega
        have h2'' : b.toNat ≤ 57 := by omega
        have hp : 10 ^ i ≤ 10 ^ 11 := Nat.pow_le_pow_right (by decide) (by omega)
        have hm2 : m < 100000000000 := Nat.lt_of_lt_of_le hm hp
        simp only [h1', h1'', h2', h2'', decide_true, decide_false, Bool.and_self, Bool.false_eq_true, if_false, if_true]
        refine ⟨by rw [i64_iff]; omega, by rw [u8_iff]; omega, by rw [i64_iff]; omega, by rw [i64_iff]; omega, by rw [i64_iff]; omega, ?_⟩
        have e1 : 10 * (m : Int) + ((b.toNat : Int) - 48) = ((10 * m + (b.toNat - 48) : Nat) : Int) := by omega
        have e2 : (i : Int) + 1 = ((i + 1 : Nat) : Int) := by omega
        rw [e1, e2]
        exact ih (i + 1) (10 * m + (b.toNat - 48)) (by omega) (by rw [Nat.pow_succ]; omega)

theorem top25 (x0 : ByteArray) : R25 (x0.size + 1 + 1) x0 [⟨.int .i64, g25_0 x0⟩] := by
  rw [R25]
  unfold g25_0
  by_cases h1 : x0.size < 1
  · rw [if_pos (by simp; omega), if_pos (.inl h1)]
  · rw [if_neg (by simp; omega)]
    by_cases h2 : 12 < x0.size
    · rw [if_pos (by simp; omega), if_pos (.inr h2)]
    · rw [if_neg (by simp; omega), if_neg (by omega)]
      exact run25 x0 (by omega) x0.size 0 0 (by omega) (by decide)

def S25 : Am.Spec := { sig := sig25, pre := fun ⟨x0, _⟩ => P25 x0, res := fun ⟨x0, _⟩ => [⟨.int .i64, g25_0 x0⟩] }
theorem con25 : Contract Tryd.prog 25 S25 := contract_of Tryd.func25 hb25 (Nat.le_of_ble_eq_true (by kernel_rfl)) (fun ⟨x0, _⟩ h hwf w0 O q =>
  (snd25 _).1 x0 _ (top25 x0) w0 O q)

end Go.Proofs.YtmigieemhbnmpaaDoor

/- Function 15 (impl.ReadClock): its runs between cut points. Written by a program of this repo (gen). -/
set_option linter.unusedVariables false
set_option linter.unusedSimpArgs false
set_option maxRecDepth 100000
namespace Go.Proofs.YtmigieemhbnmpaaDoor
open Go Go.Am Go.Proofs
def ext15 : Ext := [(24, S24), (25, S25), (26, S26)]
theorem call15_24 : Callable Tryd.prog 24 := ⟨Tryd.f24, Tryd.func24, by kernel_rfl, by kernel_rfl⟩
theorem call15_25 : Callable Tryd.prog 25 := ⟨Tryd.f25, Tryd.func25, by kernel_rfl, by kernel_rfl⟩
theorem call15_26 : Callable Tryd.prog 26 := ⟨Tryd.f26, Tryd.func26, by kernel_rfl, by kernel_rfl⟩
theorem ext15Ok : ExtOk Tryd.prog ext15 := ⟨⟨call15_24, con24⟩, ⟨call15_25, con25⟩, ⟨call15_26, con26⟩, trivial⟩
/-! Function 15. -/
noncomputable def b15 : Code := bodyOf Tryd.f15
theorem hb15 : Tryd.f15.body = some b15 := by kernel_rfl
def sig15 : List AT := [AT.v (Ty.str)]
def tys15 : List Ty := [Ty.int IntKind.i64, Ty.bool]
def P15 (x0 : ByteArray) : Prop := ((P24 x0 (ByteArray.mk #[58])) ∧ ((InR IntKind.i64 (60 * g25_0 (g24_0 x0 (ByteArray.mk #[58])))) ∧ ((InR IntKind.i64 (60 * g25_0 (g24_0 x0 (ByteArray.mk #[58])) + g25_0 (g24_1 x0 (ByteArray.mk #[58])))) ∧ (if (ByteArray.toList x0 == ByteArray.toList (ByteArray.mk #[])) = true then True else ((P26 (60 * g25_0 (g24_0 x0 (ByteArray.mk #[58])) + g25_0 (g24_1 x0 (ByteArray.mk #[58])))) ∧ True)))))
def g15_0 (x0 : ByteArray) : Int := (if (ByteArray.toList x0 == ByteArray.toList (ByteArray.mk #[])) = true then 0 else (if (!ByteArray.toList (g26_0 (60 * g25_0 (g24_0 x0 (ByteArray.mk #[58])) + g25_0 (g24_1 x0 (ByteArray.mk #[58])))) == ByteArray.toList x0) = true then 0 else 60 * g25_0 (g24_0 x0 (ByteArray.mk #[58])) + g25_0 (g24_1 x0 (ByteArray.mk #[58]))))
def g15_1 (x0 : ByteArray) : Bool := (if (ByteArray.toList x0 == ByteArray.toList (ByteArray.mk #[])) = true then Bool.false else (if (!ByteArray.toList (g26_0 (60 * g25_0 (g24_0 x0 (ByteArray.mk #[58])) + g25_0 (g24_1 x0 (ByteArray.mk #[58])))) == ByteArray.toList x0) = true then Bool.false else Bool.true))
theorem p15_0 (x0 : ByteArray) : runF tab ext15 false 29 [] 2000 [] tys15 Tryd.f15.results [true, true] [.code b15] (entE 0 0 sig15 (x0, ())) (entL sig15 (x0, ())) = some ([Dyn.mk (Ty.int IntKind.i64) 0, Dyn.mk Ty.bool Bool.false], [], [P24 x0 (ByteArray.mk #[58]), True, InR IntKind.i64 (60 * g25_0 (g24_0 x0 (ByteArray.mk #[58]))), True, InR IntKind.i64 (60 * g25_0 (g24_0 x0 (ByteArray.mk #[58])) + g25_0 (g24_1 x0 (ByteArray.mk #[58]))), (ByteArray.toList x0 == ByteArray.toList (ByteArray.mk #[])) = Bool.true, Bool.true = Bool.true]) := by kernel_rfl
theorem p15_1 (x0 : ByteArray) : runF tab ext15 false 29 [] 2000 [] tys15 Tryd.f15.results [false, true] [.code b15] (entE 0 0 sig15 (x0, ())) (entL sig15 (x0, ())) = some ([Dyn.mk (Ty.int IntKind.i64) 0, Dyn.mk Ty.bool Bool.false], [], [P24 x0 (ByteArray.mk #[58]), True, InR IntKind.i64 (60 * g25_0 (g24_0 x0 (ByteArray.mk #[58]))), True, InR IntKind.i64 (60 * g25_0 (g24_0 x0 (ByteArray.mk #[58])) + g25_0 (g24_1 x0 (ByteArray.mk #[58]))), (ByteArray.toList x0 == ByteArray.toList (ByteArray.mk #[])) = Bool.false, P26 (60 * g25_0 (g24_0 x0 (ByteArray.mk #[58])) + g25_0 (g24_1 x0 (ByteArray.mk #[58]))), (!ByteArray.toList (g26_0 (60 * g25_0 (g24_0 x0 (ByteArray.mk #[58])) + g25_0 (g24_1 x0 (ByteArray.mk #[58])))) == ByteArray.toList x0) = Bool.true]) := by kernel_rfl
theorem p15_2 (x0 : ByteArray) : runF tab ext15 false 29 [] 2000 [] tys15 Tryd.f15.results [false, false] [.code b15] (entE 0 0 sig15 (x0, ())) (entL sig15 (x0, ())) = some ([Dyn.mk (Ty.int IntKind.i64) (60 * g25_0 (g24_0 x0 (ByteArray.mk #[58])) + g25_0 (g24_1 x0 (ByteArray.mk #[58]))), Dyn.mk Ty.bool Bool.true], [], [P24 x0 (ByteArray.mk #[58]), True, InR IntKind.i64 (60 * g25_0 (g24_0 x0 (ByteArray.mk #[58]))), True, InR IntKind.i64 (60 * g25_0 (g24_0 x0 (ByteArray.mk #[58])) + g25_0 (g24_1 x0 (ByteArray.mk #[58]))), (ByteArray.toList x0 == ByteArray.toList (ByteArray.mk #[])) = Bool.false, P26 (60 * g25_0 (g24_0 x0 (ByteArray.mk #[58])) + g25_0 (g24_1 x0 (ByteArray.mk #[58]))), (!ByteArray.toList (g26_0 (60 * g25_0 (g24_0 x0 (ByteArray.mk #[58])) + g25_0 (g24_1 x0 (ByteArray.mk #[58])))) == ByteArray.toList x0) = Bool.false]) := by kernel_rfl
theorem at15 (x0 : ByteArray) (h : P15 x0) (w0 : World) (O : List Nat) (q : Nat → Value) : AtV Tryd.prog 15 (PostR [⟨Ty.int IntKind.i64, g15_0 x0⟩, ⟨Ty.bool, g15_1 x0⟩] [] [] q w0 O) 29 w0 O q [] [.code b15] (entE 0 0 sig15 (x0, ())) (entL sig15 (x0, ())) := by
  unfold P15 at h
  unfold g15_0 g15_1
  obtain ⟨s0, h⟩ := h
  obtain ⟨s1, h⟩ := h
  obtain ⟨s2, h⟩ := h
  by_cases b0 : (ByteArray.toList x0 == ByteArray.toList (ByteArray.mk #[])) = true
  · try simp only [if_pos b0] at h ⊢
    exact AtV.fin Tryd.func15 tabOk ext15Ok mixed (p15_0 x0) ⟨s0, trivial, s1, trivial, s2, b0, rfl, trivial⟩
  · try simp only [if_neg b0] at h ⊢
    replace b0 := Bool.eq_false_iff.2 b0
    obtain ⟨s3, h⟩ := h
    by_cases b1 : (!ByteArray.toList (g26_0 (60 * g25_0 (g24_0 x0 (ByteArray.mk #[58])) + g25_0 (g24_1 x0 (ByteArray.mk #[58])))) == ByteArray.toList x0) = true
    · try simp only [if_pos b1] at h ⊢
      exact AtV.fin Tryd.func15 tabOk ext15Ok mixed (p15_1 x0) ⟨s0, trivial, s1, trivial, s2, b0, s3, b1, trivial⟩
    · try simp only [if_neg b1] at h ⊢
      replace b1 := Bool.eq_false_iff.2 b1
      exact AtV.fin Tryd.func15 tabOk ext15Ok mixed (p15_2 x0) ⟨s0, trivial, s1, trivial, s2, b0, s3, b1, trivial⟩

def S15 : Am.Spec := { sig := sig15, pre := fun ⟨x0, _⟩ => P15 x0, res := fun ⟨x0, _⟩ => [⟨Ty.int IntKind.i64, g15_0 x0⟩, ⟨Ty.bool, g15_1 x0⟩] }
theorem con15 : Contract Tryd.prog 15 S15 := contract_of Tryd.func15 hb15 (Nat.le_of_ble_eq_true (by kernel_rfl)) (fun ⟨x0, _⟩ h _ w0 O q => at15 x0 h w0 O q)


end Go.Proofs.YtmigieemhbnmpaaDoor

/- Function 9 (impl.readDayClock): its runs between cut points. Written by a program of this repo (gen). -/
set_option linter.unusedVariables false
set_option linter.unusedSimpArgs false
set_option maxRecDepth 100000
namespace Go.Proofs.YtmigieemhbnmpaaDoor
open Go Go.Am Go.Proofs
def ext9 : Ext := [(15, S15)]
theorem call9_15 : Callable Tryd.prog 15 := ⟨Tryd.f15, Tryd.func15, by kernel_rfl, by kernel_rfl⟩
theorem ext9Ok : ExtOk Tryd.prog ext9 := ⟨⟨call9_15, con15⟩, trivial⟩
/-! Function 9. -/
noncomputable def b9 : Code := bodyOf Tryd.f9
theorem hb9 : Tryd.f9.body = some b9 := by kernel_rfl
def sig9 : List AT := [AT.v (Ty.str)]
def tys9 : List Ty := [Ty.int IntKind.i64]
def P9 (x0 : ByteArray) : Prop := (if (ByteArray.toList x0 == ByteArray.toList (ByteArray.mk #[50, 52, 58, 48, 48])) = true then True else ((P15 x0) ∧ True))
def g9_0 (x0 : ByteArray) : Int := (if (ByteArray.toList x0 == ByteArray.toList (ByteArray.mk #[50, 52, 58, 48, 48])) = true then 1440 else g15_0 x0)
theorem p9_0 (x0 : ByteArray) : runF tab ext9 false 13 [] 2000 [] tys9 Tryd.f9.results [true] [.code b9] (entE 0 0 sig9 (x0, ())) (entL sig9 (x0, ())) = some ([Dyn.mk (Ty.int IntKind.i64) 1440], [], [(ByteArray.toList x0 == ByteArray.toList (ByteArray.mk #[50, 52, 58, 48, 48])) = Bool.true]) := by kernel_rfl
theorem p9_1 (x0 : ByteArray) : runF tab ext9 false 13 [] 2000 [] tys9 Tryd.f9.results [false] [.code b9] (entE 0 0 sig9 (x0, ())) (entL sig9 (x0, ())) = some ([Dyn.mk (Ty.int IntKind.i64) (g15_0 x0)], [], [(ByteArray.toList x0 == ByteArray.toList (ByteArray.mk #[50, 52, 58, 48, 48])) = Bool.false, P15 x0]) := by kernel_rfl
theorem at9 (x0 : ByteArray) (h : P9 x0) (w0 : World) (O : List Nat) (q : Nat → Value) : AtV Tryd.prog 9 (PostR [⟨Ty.int IntKind.i64, g9_0 x0⟩] [] [] q w0 O) 13 w0 O q [] [.code b9] (entE 0 0 sig9 (x0, ())) (entL sig9 (x0, ())) := by
  unfold P9 at h
  unfold g9_0
  by_cases b0 : (ByteArray.toList x0 == ByteArray.toList (ByteArray.mk #[50, 52, 58, 48, 48])) = true
  · try simp only [if_pos b0] at h ⊢
    exact AtV.fin Tryd.func9 tabOk ext9Ok mixed (p9_0 x0) ⟨b0, trivial⟩
  · try simp only [if_neg b0] at h ⊢
    replace b0 := Bool.eq_false_iff.2 b0
    obtain ⟨s0, h⟩ := h
    exact AtV.fin Tryd.func9 tabOk ext9Ok mixed (p9_1 x0) ⟨b0, s0, trivial⟩

def S9 : Am.Spec := { sig := sig9, pre := fun ⟨x0, _⟩ => P9 x0, res := fun ⟨x0, _⟩ => [⟨Ty.int IntKind.i64, g9_0 x0⟩] }
theorem con9 : Contract Tryd.prog 9 S9 := contract_of Tryd.func9 hb9 (Nat.le_of_ble_eq_true (by kernel_rfl)) (fun ⟨x0, _⟩ h _ w0 O q => at9 x0 h w0 O q)


end Go.Proofs.YtmigieemhbnmpaaDoor

/- Function 5 (impl.ReadWorker): its runs between cut points. Written by a program of this repo (gen). -/
set_option linter.unusedVariables false
set_option linter.unusedSimpArgs false
set_option maxRecDepth 100000
namespace Go.Proofs.YtmigieemhbnmpaaDoor
open Go Go.Am Go.Proofs
def ext5 : Ext := [(8, S8), (9, S9), (10, S10)]
theorem call5_8 : Callable Tryd.prog 8 := ⟨Tryd.f8, Tryd.func8, by kernel_rfl, by kernel_rfl⟩
theorem call5_9 : Callable Tryd.prog 9 := ⟨Tryd.f9, Tryd.func9, by kernel_rfl, by kernel_rfl⟩
theorem call5_10 : Callable Tryd.prog 10 := ⟨Tryd.f10, Tryd.func10, by kernel_rfl, by kernel_rfl⟩
theorem ext5Ok : ExtOk Tryd.prog ext5 := ⟨⟨call5_8, con8⟩, ⟨call5_9, con9⟩, ⟨call5_10, con10⟩, trivial⟩
/-! Function 5. -/
noncomputable def b5 : Code := bodyOf Tryd.f5
theorem hb5 : Tryd.f5.body = some b5 := by kernel_rfl
def sig5 : List AT := [AT.v (Ty.str)]
def tys5 : List Ty := [Ty.cons Ty.str (Ty.cons (Ty.int IntKind.i64) (Ty.cons (Ty.int IntKind.i64) Ty.unit)), Ty.bool]
def P5 (x0 : ByteArray) : Prop := ((P8 x0 (ByteArray.mk #[32])) ∧ (if ((↑(List.length (g8_0 x0 (ByteArray.mk #[32]))) : Int) != 3) = true then True else ((0 < (↑(List.length (g8_0 x0 (ByteArray.mk #[32]))) : Int)) ∧ ((1 < (↑(List.length (g8_0 x0 (ByteArray.mk #[32]))) : Int)) ∧ ((P9 (List.getD (g8_0 x0 (ByteArray.mk #[32])) 1 ByteArray.empty)) ∧ ((2 < (↑(List.length (g8_0 x0 (ByteArray.mk #[32]))) : Int)) ∧ ((P9 (List.getD (g8_0 x0 (ByteArray.mk #[32])) 2 ByteArray.empty)) ∧ ((P10 (List.getD (g8_0 x0 (ByteArray.mk #[32])) 0 ByteArray.empty, g9_0 (List.getD (g8_0 x0 (ByteArray.mk #[32])) 1 ByteArray.empty), g9_0 (List.getD (g8_0 x0 (ByteArray.mk #[32])) 2 ByteArray.empty), ())) ∧ True))))))))
def g5_0 (x0 : ByteArray) : ByteArray × Int × Int × Unit := (if ((↑(List.length (g8_0 x0 (ByteArray.mk #[32]))) : Int) != 3) = true then (ByteArray.empty, 0, 0, ()) else (if (!ByteArray.toList (g10_0 (List.getD (g8_0 x0 (ByteArray.mk #[32])) 0 ByteArray.empty, g9_0 (List.getD (g8_0 x0 (ByteArray.mk #[32])) 1 ByteArray.empty), g9_0 (List.getD (g8_0 x0 (ByteArray.mk #[32])) 2 ByteArray.empty), ())) == ByteArray.toList x0) = true then (ByteArray.empty, 0, 0, ()) else (List.getD (g8_0 x0 (ByteArray.mk #[32])) 0 ByteArray.empty, g9_0 (List.getD (g8_0 x0 (ByteArray.mk #[32])) 1 ByteArray.empty), g9_0 (List.getD (g8_0 x0 (ByteArray.mk #[32])) 2 ByteArray.empty), ())))
def g5_1 (x0 : ByteArray) : Bool := (if ((↑(List.length (g8_0 x0 (ByteArray.mk #[32]))) : Int) != 3) = true then Bool.false else (if (!ByteArray.toList (g10_0 (List.getD (g8_0 x0 (ByteArray.mk #[32])) 0 ByteArray.empty, g9_0 (List.getD (g8_0 x0 (ByteArray.mk #[32])) 1 ByteArray.empty), g9_0 (List.getD (g8_0 x0 (ByteArray.mk #[32])) 2 ByteArray.empty), ())) == ByteArray.toList x0) = true then Bool.false else Bool.true))
theorem p5_0 (x0 : ByteArray) : runF tab ext5 false 30 [] 2000 [] tys5 Tryd.f5.results [true] [.code b5] (entE 0 0 sig5 (x0, ())) (entL sig5 (x0, ())) = some ([Dyn.mk (Ty.cons Ty.str (Ty.cons (Ty.int IntKind.i64) (Ty.cons (Ty.int IntKind.i64) Ty.unit))) (ByteArray.empty, 0, 0, ()), Dyn.mk Ty.bool Bool.false], [], [P8 x0 (ByteArray.mk #[32]), ((↑(List.length (g8_0 x0 (ByteArray.mk #[32]))) : Int) != 3) = Bool.true]) := by kernel_rfl
theorem p5_1 (x0 : ByteArray) : runF tab ext5 false 30 [] 2000 [] tys5 Tryd.f5.results [false, true] [.code b5] (entE 0 0 sig5 (x0, ())) (entL sig5 (x0, ())) = some ([Dyn.mk (Ty.cons Ty.str (Ty.cons (Ty.int IntKind.i64) (Ty.cons (Ty.int IntKind.i64) Ty.unit))) (ByteArray.empty, 0, 0, ()), Dyn.mk Ty.bool Bool.false], [], [P8 x0 (ByteArray.mk #[32]), ((↑(List.length (g8_0 x0 (ByteArray.mk #[32]))) : Int) != 3) = Bool.false, (0 : Int) ≤ (0 : Int), 0 < (↑(List.length (g8_0 x0 (ByteArray.mk #[32]))) : Int), (0 : Int) ≤ (1 : Int), 1 < (↑(List.length (g8_0 x0 (ByteArray.mk #[32]))) : Int), P9 (List.getD (g8_0 x0 (ByteArray.mk #[32])) 1 ByteArray.empty), (0 : Int) ≤ (2 : Int), 2 < (↑(List.length (g8_0 x0 (ByteArray.mk #[32]))) : Int), P9 (List.getD (g8_0 x0 (ByteArray.mk #[32])) 2 ByteArray.empty), P10 (List.getD (g8_0 x0 (ByteArray.mk #[32])) 0 ByteArray.empty, g9_0 (List.getD (g8_0 x0 (ByteArray.mk #[32])) 1 ByteArray.empty), g9_0 (List.getD (g8_0 x0 (ByteArray.mk #[32])) 2 ByteArray.empty), ()), (!ByteArray.toList (g10_0 (List.getD (g8_0 x0 (ByteArray.mk #[32])) 0 ByteArray.empty, g9_0 (List.getD (g8_0 x0 (ByteArray.mk #[32])) 1 ByteArray.empty), g9_0 (List.getD (g8_0 x0 (ByteArray.mk #[32])) 2 ByteArray.empty), ())) == ByteArray.toList x0) = Bool.true]) := by kernel_rfl
theorem p5_2 (x0 : ByteArray) : runF tab ext5 false 30 [] 2000 [] tys5 Tryd.f5.results [false, false] [.code b5] (entE 0 0 sig5 (x0, ())) (entL sig5 (x0, ())) = some ([Dyn.mk (Ty.cons Ty.str (Ty.cons (Ty.int IntKind.i64) (Ty.cons (Ty.int IntKind.i64) Ty.unit))) (List.getD (g8_0 x0 (ByteArray.mk #[32])) 0 ByteArray.empty, g9_0 (List.getD (g8_0 x0 (ByteArray.mk #[32])) 1 ByteArray.empty), g9_0 (List.getD (g8_0 x0 (ByteArray.mk #[32])) 2 ByteArray.empty), ()), Dyn.mk Ty.bool Bool.true], [], [P8 x0 (ByteArray.mk #[32]), ((↑(List.length (g8_0 x0 (ByteArray.mk #[32]))) : Int) != 3) = Bool.false, (0 : Int) ≤ (0 : Int), 0 < (↑(List.length (g8_0 x0 (ByteArray.mk #[32]))) : Int), (0 : Int) ≤ (1 : Int), 1 < (↑(List.length (g8_0 x0 (ByteArray.mk #[32]))) : Int), P9 (List.getD (g8_0 x0 (ByteArray.mk #[32])) 1 ByteArray.empty), (0 : Int) ≤ (2 : Int), 2 < (↑(List.length (g8_0 x0 (ByteArray.mk #[32]))) : Int), P9 (List.getD (g8_0 x0 (ByteArray.mk #[32])) 2 ByteArray.empty), P10 (List.getD (g8_0 x0 (ByteArray.mk #[32])) 0 ByteArray.empty, g9_0 (List.getD (g8_0 x0 (ByteArray.mk #[32])) 1 ByteArray.empty), g9_0 (List.getD (g8_0 x0 (ByteArray.mk #[32])) 2 ByteArray.empty), ()), (!ByteArray.toList (g10_0 (List.getD (g8_0 x0 (ByteArray.mk #[32])) 0 ByteArray.empty, g9_0 (List.getD (g8_0 x0 (ByteArray.mk #[32])) 1 ByteArray.empty), g9_0 (List.getD (g8_0 x0 (ByteArray.mk #[32])) 2 ByteArray.empty), ())) == ByteArray.toList x0) = Bool.false]) := by kernel_rfl
theorem at5 (x0 : ByteArray) (h : P5 x0) (w0 : World) (O : List Nat) (q : Nat → Value) : AtV Tryd.prog 5 (PostR [⟨Ty.cons Ty.str (Ty.cons (Ty.int IntKind.i64) (Ty.cons (Ty.int IntKind.i64) Ty.unit)), g5_0 x0⟩, ⟨Ty.bool, g5_1 x0⟩] [] [] q w0 O) 30 w0 O q [] [.code b5] (entE 0 0 sig5 (x0, ())) (entL sig5 (x0, ())) := by
  unfold P5 at h
  unfold g5_0 g5_1
  obtain ⟨s0, h⟩ := h
  by_cases b0 : ((↑(List.length (g8_0 x0 (ByteArray.mk #[32]))) : Int) != 3) = true
  · try simp only [if_pos b0] at h ⊢
    exact AtV.fin Tryd.func5 tabOk ext5Ok mixed (p5_0 x0) ⟨s0, b0, trivial⟩
  · try simp only [if_neg b0] at h ⊢
    replace b0 := Bool.eq_false_iff.2 b0
    obtain ⟨s1, h⟩ := h
    obtain ⟨s2, h⟩ := h
    obtain ⟨s3, h⟩ := h
    obtain ⟨s4, h⟩ := h
    obtain ⟨s5, h⟩ := h
    obtain ⟨s6, h⟩ := h
    by_cases b1 : (!ByteArray.toList (g10_0 (List.getD (g8_0 x0 (ByteArray.mk #[32])) 0 ByteArray.empty, g9_0 (List.getD (g8_0 x0 (ByteArray.mk #[32])) 1 ByteArray.empty), g9_0 (List.getD (g8_0 x0 (ByteArray.mk #[32])) 2 ByteArray.empty), ())) == ByteArray.toList x0) = true
    · try simp only [if_pos b1] at h ⊢
      exact AtV.fin Tryd.func5 tabOk ext5Ok mixed (p5_1 x0) ⟨s0, b0, (by decide), s1, (by decide), s2, s3, (by decide), s4, s5, s6, b1, trivial⟩
    · try simp only [if_neg b1] at h ⊢
      replace b1 := Bool.eq_false_iff.2 b1
      exact AtV.fin Tryd.func5 tabOk ext5Ok mixed (p5_2 x0) ⟨s0, b0, (by decide), s1, (by decide), s2, s3, (by decide), s4, s5, s6, b1, trivial⟩

def S5 : Am.Spec := { sig := sig5, pre := fun ⟨x0, _⟩ => P5 x0, res := fun ⟨x0, _⟩ => [⟨Ty.cons Ty.str (Ty.cons (Ty.int IntKind.i64) (Ty.cons (Ty.int IntKind.i64) Ty.unit)), g5_0 x0⟩, ⟨Ty.bool, g5_1 x0⟩] }
theorem con5 : Contract Tryd.prog 5 S5 := contract_of Tryd.func5 hb5 (Nat.le_of_ble_eq_true (by kernel_rfl)) (fun ⟨x0, _⟩ h _ w0 O q => at5 x0 h w0 O q)


end Go.Proofs.YtmigieemhbnmpaaDoor

/- Function 6 (laws.eqWorker): its runs between cut points. Written by a program of this repo (gen). -/
set_option linter.unusedVariables false
set_option linter.unusedSimpArgs false
set_option maxRecDepth 100000
namespace Go.Proofs.YtmigieemhbnmpaaDoor
open Go Go.Am Go.Proofs
def ext6 : Ext := []
theorem ext6Ok : ExtOk Tryd.prog ext6 := trivial
/-! Function 6. -/
noncomputable def b6 : Code := bodyOf Tryd.f6
theorem hb6 : Tryd.f6.body = some b6 := by kernel_rfl
def sig6 : List AT := [AT.v (Ty.cons Ty.str (Ty.cons (Ty.int IntKind.i64) (Ty.cons (Ty.int IntKind.i64) Ty.unit))), AT.v (Ty.cons Ty.str (Ty.cons (Ty.int IntKind.i64) (Ty.cons (Ty.int IntKind.i64) Ty.unit)))]
def tys6 : List Ty := [Ty.bool]
def P6 (x0 : ByteArray × Int × Int × Unit) (x1 : ByteArray × Int × Int × Unit) : Prop := True
def g6_0 (x0 : ByteArray × Int × Int × Unit) (x1 : ByteArray × Int × Int × Unit) : Bool := (if (!ByteArray.toList (Prod.fst x0) == ByteArray.toList (Prod.fst x1)) = true then Bool.false else (if (Prod.fst (Prod.snd x0) != Prod.fst (Prod.snd x1)) = true then Bool.false else (if (Prod.fst (Prod.snd (Prod.snd x0)) != Prod.fst (Prod.snd (Prod.snd x1))) = true then Bool.false else Bool.true)))
theorem p6_0 (x0 : ByteArray × Int × Int × Unit) (x1 : ByteArray × Int × Int × Unit) : runF tab ext6 false 20 [] 2000 [] tys6 Tryd.f6.results [true] [.code b6] (entE 0 0 sig6 (x0, x1, ())) (entL sig6 (x0, x1, ())) = some ([Dyn.mk Ty.bool Bool.false], [], [(!ByteArray.toList (Prod.fst x0) == ByteArray.toList (Prod.fst x1)) = Bool.true]) := by kernel_rfl
theorem p6_1 (x0 : ByteArray × Int × Int × Unit) (x1 : ByteArray × Int × Int × Unit) : runF tab ext6 false 20 [] 2000 [] tys6 Tryd.f6.results [false, true] [.code b6] (entE 0 0 sig6 (x0, x1, ())) (entL sig6 (x0, x1, ())) = some ([Dyn.mk Ty.bool Bool.false], [], [(!ByteArray.toList (Prod.fst x0) == ByteArray.toList (Prod.fst x1)) = Bool.false, (Prod.fst (Prod.snd x0) != Prod.fst (Prod.snd x1)) = Bool.true]) := by kernel_rfl
theorem p6_2 (x0 : ByteArray × Int × Int × Unit) (x1 : ByteArray × Int × Int × Unit) : runF tab ext6 false 20 [] 2000 [] tys6 Tryd.f6.results [false, false, true] [.code b6] (entE 0 0 sig6 (x0, x1, ())) (entL sig6 (x0, x1, ())) = some ([Dyn.mk Ty.bool Bool.false], [], [(!ByteArray.toList (Prod.fst x0) == ByteArray.toList (Prod.fst x1)) = Bool.false, (Prod.fst (Prod.snd x0) != Prod.fst (Prod.snd x1)) = Bool.false, (Prod.fst (Prod.snd (Prod.snd x0)) != Prod.fst (Prod.snd (Prod.snd x1))) = Bool.true]) := by kernel_rfl
theorem p6_3 (x0 : ByteArray × Int × Int × Unit) (x1 : ByteArray × Int × Int × Unit) : runF tab ext6 false 20 [] 2000 [] tys6 Tryd.f6.results [false, false, false] [.code b6] (entE 0 0 sig6 (x0, x1, ())) (entL sig6 (x0, x1, ())) = some ([Dyn.mk Ty.bool Bool.true], [], [(!ByteArray.toList (Prod.fst x0) == ByteArray.toList (Prod.fst x1)) = Bool.false, (Prod.fst (Prod.snd x0) != Prod.fst (Prod.snd x1)) = Bool.false, (Prod.fst (Prod.snd (Prod.snd x0)) != Prod.fst (Prod.snd (Prod.snd x1))) = Bool.false]) := by kernel_rfl
theorem at6 (x0 : ByteArray × Int × Int × Unit) (x1 : ByteArray × Int × Int × Unit) (h : P6 x0 x1) (w0 : World) (O : List Nat) (q : Nat → Value) : AtV Tryd.prog 6 (PostR [⟨Ty.bool, g6_0 x0 x1⟩] [] [] q w0 O) 20 w0 O q [] [.code b6] (entE 0 0 sig6 (x0, x1, ())) (entL sig6 (x0, x1, ())) := by
  unfold P6 at h
  unfold g6_0
  by_cases b0 : (!ByteArray.toList (Prod.fst x0) == ByteArray.toList (Prod.fst x1)) = true
  · try simp only [if_pos b0] at h ⊢
    exact AtV.fin Tryd.func6 tabOk ext6Ok mixed (p6_0 x0 x1) ⟨b0, trivial⟩
  · try simp only [if_neg b0] at h ⊢
    replace b0 := Bool.eq_false_iff.2 b0
    by_cases b1 : (Prod.fst (Prod.snd x0) != Prod.fst (Prod.snd x1)) = true
    · try simp only [if_pos b1] at h ⊢
      exact AtV.fin Tryd.func6 tabOk ext6Ok mixed (p6_1 x0 x1) ⟨b0, b1, trivial⟩
    · try simp only [if_neg b1] at h ⊢
      replace b1 := Bool.eq_false_iff.2 b1
      by_cases b2 : (Prod.fst (Prod.snd (Prod.snd x0)) != Prod.fst (Prod.snd (Prod.snd x1))) = true
      · try simp only [if_pos b2] at h ⊢
        exact AtV.fin Tryd.func6 tabOk ext6Ok mixed (p6_2 x0 x1) ⟨b0, b1, b2, trivial⟩
      · try simp only [if_neg b2] at h ⊢
        replace b2 := Bool.eq_false_iff.2 b2
        exact AtV.fin Tryd.func6 tabOk ext6Ok mixed (p6_3 x0 x1) ⟨b0, b1, b2, trivial⟩

def S6 : Am.Spec := { sig := sig6, pre := fun ⟨x0, x1, _⟩ => P6 x0 x1, res := fun ⟨x0, x1, _⟩ => [⟨Ty.bool, g6_0 x0 x1⟩] }
theorem con6 : Contract Tryd.prog 6 S6 := contract_of Tryd.func6 hb6 (Nat.le_of_ble_eq_true (by kernel_rfl)) (fun ⟨x0, x1, _⟩ h _ w0 O q => at6 x0 x1 h w0 O q)


theorem eqd6 (x y : (ByteArray × Int × Int × Unit)) : g6_0 x y = true ↔ x = y := by
  obtain ⟨a, b, c, u⟩ := x
  obtain ⟨a', b', c', u'⟩ := y
  unfold g6_0
  simp only [Bool.not_eq_true', bytes_ne, bne_iff_ne, ne_eq, ite_not]
  by_cases h0 : a = a'
  · by_cases h1 : b = b'
    · by_cases h2 : c = c'
      · simp [h0, h1, h2]
      · simp [h0, h1, h2]
    · simp [h0, h1]
  · simp [h0]

end Go.Proofs.YtmigieemhbnmpaaDoor

/- Function 3 (laws.FnExactReadWorker): its runs between cut points. Written by a program of this repo (gen). -/
set_option linter.unusedVariables false
set_option linter.unusedSimpArgs false
set_option maxRecDepth 100000
namespace Go.Proofs.YtmigieemhbnmpaaDoor
open Go Go.Am Go.Proofs
def ext3 : Ext := [(4, S4), (5, S5), (6, S6)]
theorem call3_4 : Callable Tryd.prog 4 := ⟨Tryd.f4, Tryd.func4, by kernel_rfl, by kernel_rfl⟩
theorem call3_5 : Callable Tryd.prog 5 := ⟨Tryd.f5, Tryd.func5, by kernel_rfl, by kernel_rfl⟩
theorem call3_6 : Callable Tryd.prog 6 := ⟨Tryd.f6, Tryd.func6, by kernel_rfl, by kernel_rfl⟩
theorem ext3Ok : ExtOk Tryd.prog ext3 := ⟨⟨call3_4, con4⟩, ⟨call3_5, con5⟩, ⟨call3_6, con6⟩, trivial⟩
/-! Function 3. -/
noncomputable def b3 : Code := bodyOf Tryd.f3
theorem hb3 : Tryd.f3.body = some b3 := by kernel_rfl
def sig3 : List AT := [AT.v (Ty.str)]
def tys3 : List Ty := [Ty.bool]
def P3 (x0 : ByteArray) : Prop := (if (Decidable.decide ((↑(ByteArray.size x0) : Int) > 1048576)) = true then True else ((P4 x0) ∧ ((P5 x0) ∧ True)))
def g3_0 (x0 : ByteArray) : Bool := (if (Decidable.decide ((↑(ByteArray.size x0) : Int) > 1048576)) = true then Bool.true else (if (!g6_0 (g5_0 x0) (g4_0 x0)) = true then Bool.false else (if (!g5_1 x0 == g4_1 x0) = true then Bool.false else Bool.true)))
theorem p3_0 (x0 : ByteArray) : runF tab ext3 false 29 [] 2000 [] tys3 Tryd.f3.results [true] [.code b3] (entE 0 0 sig3 (x0, ())) (entL sig3 (x0, ())) = some ([Dyn.mk Ty.bool Bool.true], [], [Decidable.decide ((↑(ByteArray.size x0) : Int) > 1048576) = Bool.true]) := by kernel_rfl
theorem p3_1 (x0 : ByteArray) : runF tab ext3 false 29 [] 2000 [] tys3 Tryd.f3.results [false, true, true] [.code b3] (entE 0 0 sig3 (x0, ())) (entL sig3 (x0, ())) = some ([Dyn.mk Ty.bool Bool.false], [], [Decidable.decide ((↑(ByteArray.size x0) : Int) > 1048576) = Bool.false, P4 x0, P5 x0, True, (!g6_0 (g5_0 x0) (g4_0 x0)) = Bool.true, Bool.true = Bool.true]) := by kernel_rfl
theorem p3_2 (x0 : ByteArray) : runF tab ext3 false 29 [] 2000 [] tys3 Tryd.f3.results [false, false, true] [.code b3] (entE 0 0 sig3 (x0, ())) (entL sig3 (x0, ())) = some ([Dyn.mk Ty.bool Bool.false], [], [Decidable.decide ((↑(ByteArray.size x0) : Int) > 1048576) = Bool.false, P4 x0, P5 x0, True, (!g6_0 (g5_0 x0) (g4_0 x0)) = Bool.false, (!g5_1 x0 == g4_1 x0) = Bool.true]) := by kernel_rfl
theorem p3_3 (x0 : ByteArray) : runF tab ext3 false 29 [] 2000 [] tys3 Tryd.f3.results [false, false, false] [.code b3] (entE 0 0 sig3 (x0, ())) (entL sig3 (x0, ())) = some ([Dyn.mk Ty.bool Bool.true], [], [Decidable.decide ((↑(ByteArray.size x0) : Int) > 1048576) = Bool.false, P4 x0, P5 x0, True, (!g6_0 (g5_0 x0) (g4_0 x0)) = Bool.false, (!g5_1 x0 == g4_1 x0) = Bool.false]) := by kernel_rfl
theorem at3 (x0 : ByteArray) (h : P3 x0) (w0 : World) (O : List Nat) (q : Nat → Value) : AtV Tryd.prog 3 (PostR [⟨Ty.bool, g3_0 x0⟩] [] [] q w0 O) 29 w0 O q [] [.code b3] (entE 0 0 sig3 (x0, ())) (entL sig3 (x0, ())) := by
  unfold P3 at h
  unfold g3_0
  by_cases b0 : (Decidable.decide ((↑(ByteArray.size x0) : Int) > 1048576)) = true
  · try simp only [if_pos b0] at h ⊢
    exact AtV.fin Tryd.func3 tabOk ext3Ok mixed (p3_0 x0) ⟨b0, trivial⟩
  · try simp only [if_neg b0] at h ⊢
    replace b0 := Bool.eq_false_iff.2 b0
    obtain ⟨s0, h⟩ := h
    obtain ⟨s1, h⟩ := h
    by_cases b1 : (!g6_0 (g5_0 x0) (g4_0 x0)) = true
    · try simp only [if_pos b1] at h ⊢
      exact AtV.fin Tryd.func3 tabOk ext3Ok mixed (p3_1 x0) ⟨b0, s0, s1, trivial, b1, rfl, trivial⟩
    · try simp only [if_neg b1] at h ⊢
      replace b1 := Bool.eq_false_iff.2 b1
      by_cases b2 : (!g5_1 x0 == g4_1 x0) = true
      · try simp only [if_pos b2] at h ⊢
        exact AtV.fin Tryd.func3 tabOk ext3Ok mixed (p3_2 x0) ⟨b0, s0, s1, trivial, b1, b2, trivial⟩
      · try simp only [if_neg b2] at h ⊢
        replace b2 := Bool.eq_false_iff.2 b2
        exact AtV.fin Tryd.func3 tabOk ext3Ok mixed (p3_3 x0) ⟨b0, s0, s1, trivial, b1, b2, trivial⟩

def S3 : Am.Spec := { sig := sig3, pre := fun ⟨x0, _⟩ => P3 x0, res := fun ⟨x0, _⟩ => [⟨Ty.bool, g3_0 x0⟩] }
theorem con3 : Contract Tryd.prog 3 S3 := contract_of Tryd.func3 hb3 (Nat.le_of_ble_eq_true (by kernel_rfl)) (fun ⟨x0, _⟩ h _ w0 O q => at3 x0 h w0 O q)


end Go.Proofs.YtmigieemhbnmpaaDoor

/- A law that says how functions of the program and of the specification hang together. -/
set_option linter.unusedVariables false
set_option linter.unusedSimpArgs false
set_option maxRecDepth 100000
namespace Go.Proofs.YtmigieemhbnmpaaDoor
open Go Go.Am Go.Proofs

/-- The sign of a digit. -/
def D10 (a : Nat) : UInt8 := UInt8.ofNat (48 + a)
theorem D10_nat {a : Nat} (h : a < 10) : (D10 a).toNat = 48 + a := by unfold D10; rw [UInt8.toNat_ofNat']; omega
theorem D10_of {b : UInt8} (h : 48 ≤ b.toNat ∧ b.toNat ≤ 57) : b = D10 (b.toNat - 48) := by
  rw [← UInt8.toNat_inj, D10_nat (by omega)]; omega
theorem D10_inj {a b : Nat} (ha : a < 10) (hb : b < 10) (h : D10 a = D10 b) : a = b := by
  have := congrArg UInt8.toNat h
  rw [D10_nat ha, D10_nat hb] at this
  omega

theorem num_one {n : Nat} (h : n < 10) : numB (n : Int) = ⟨⟨[D10 n]⟩⟩ := by
  unfold numB Lib.itoa
  rw [if_neg (by omega), Int.toNat_natCast, Lib.decDigits_one h]
  rfl
theorem num_two {n : Nat} (h1 : 10 ≤ n) (h : n < 100) : numB (n : Int) = ⟨⟨[D10 (n / 10), D10 (n % 10)]⟩⟩ := by
  unfold numB Lib.itoa
  rw [if_neg (by omega), Int.toNat_natCast, Lib.decDigits_two (by omega) h]
  rfl

theorem pad_two {n : Nat} (h : n < 100) : P39 (n : Int) 2 ∧ g39_0 (n : Int) 2 = ⟨⟨[D10 (n / 10), D10 (n % 10)]⟩⟩ := by
  unfold P39 g39_0
  have e : g45_0 (n : Int) = numB (n : Int) := rfl
  rw [e]
  by_cases h1 : n < 10
  · rw [num_one h1]
    have e0 : n / 10 = 0 := by omega
    have e1 : n % 10 = n := by omega
    rw [e0, e1]
    have e2 : (ByteArray.mk (Array.mk [D10 n])).size = 1 := rfl
    rw [e2]
    exact ⟨⟨⟨rfl, trivial⟩, by rw [i64_iff]; decide, ⟨by decide, by decide⟩, by show 1 + 1 ≤ _; decide, trivial⟩, rfl⟩
  · rw [num_two (by omega) h]
    have e2 : (ByteArray.mk (Array.mk [D10 (n / 10), D10 (n % 10)])).size = 2 := rfl
    rw [e2]
    exact ⟨⟨⟨rfl, trivial⟩, by rw [i64_iff]; decide, ⟨by decide, by decide⟩, by show 0 + 2 ≤ _; decide, trivial⟩, rfl⟩

theorem num_bound : ∀ (l : List UInt8) (m i : Nat), m < 10 ^ i → i + l.length ≤ 12 → -1 ≤ num25 l (m : Int) ∧ num25 l (m : Int) < 1000000000000
  | [], m, i, h, hi => by
    have hp : 10 ^ i ≤ 10 ^ 12 := Nat.pow_le_pow_right (by decide) (by simp at hi; omega)
    have : m < 1000000000000 := Nat.lt_of_lt_of_le h hp
    show -1 ≤ (m : Int) ∧ (m : Int) < 1000000000000
    omega
  | b :: r, m, i, h, hi => by
    unfold num25
    split
    · rename_i hd
      have hd' : 48 ≤ b.toNat ∧ b.toNat ≤ 57 := by simpa using hd
      have e1 : 10 * (m : Int) + ((b.toNat : Int) - 48) = ((10 * m + (b.toNat - 48) : Nat) : Int) := by omega
      rw [e1]
      exact num_bound r _ (i + 1) (by rw [Nat.pow_succ]; omega) (by simp at hi; omega)
    · omega

theorem number_bound (x : ByteArray) : -1 ≤ g25_0 x ∧ g25_0 x < 1000000000000 := by
  unfold g25_0
  split
  · omega
  · rename_i h
    have : x.data.toList.length = x.size := rfl
    exact num_bound x.data.toList 0 0 (by decide) (by omega)

theorem number_two {a b : Nat} (ha : a < 10) (hb : b < 10) : g25_0 ⟨⟨[D10 a, D10 b]⟩⟩ = ((10 * a + b : Nat) : Int) := by
  unfold g25_0
  rw [if_neg (by show ¬ (2 < 1 ∨ 12 < 2); omega)]
  show num25 [D10 a, D10 b] 0 = _
  simp only [num25, D10_nat ha, D10_nat hb, decide_eq_true_eq, Bool.and_eq_true]
  rw [if_pos (by omega), if_pos (by omega)]
  omega


end Go.Proofs.YtmigieemhbnmpaaDoor

/- A law that says how functions of the program and of the specification hang together. -/
set_option linter.unusedVariables false
set_option linter.unusedSimpArgs false
set_option maxRecDepth 100000
namespace Go.Proofs.YtmigieemhbnmpaaDoor
open Go Go.Am Go.Proofs

theorem digits_two {a b : Nat} (ha : a < 10) (hb : b < 10) : g29_0 ⟨⟨[D10 a, D10 b]⟩⟩ = ((10 * a + b : Nat) : Int) ∧ g29_1 ⟨⟨[D10 a, D10 b]⟩⟩ = true := by
  unfold g29_0 g29_1
  show (dig29 [D10 a, D10 b] 0).1 = _ ∧ (dig29 [D10 a, D10 b] 0).2 = _
  simp only [dig29, d29, D10_nat ha, D10_nat hb, decide_eq_true_eq, Bool.and_eq_true]
  rw [if_pos (by omega), if_pos (by omega)]
  exact ⟨by simp only; omega, rfl⟩

theorem digits_all : ∀ (l : List UInt8) (n : Int), (dig29 l n).2 = true → ∀ b ∈ l, 48 ≤ b.toNat ∧ b.toNat ≤ 57
  | [], _, _, b, hb => by cases hb
  | c :: r, n, h, b, hb => by
    unfold dig29 at h
    split at h
    · rename_i hd
      rcases List.mem_cons.1 hb with rfl | hb
      · unfold d29 at hd; simpa using hd
      · exact digits_all r _ h b hb
    · cases h

/-- The text of a time of day. -/
def clk (h m : Nat) : ByteArray := ⟨⟨[D10 (h / 10), D10 (h % 10), 58, D10 (m / 10), D10 (m % 10)]⟩⟩

theorem clk_inj {h m h' m' : Nat} (h1 : h < 100) (h2 : m < 100) (h3 : h' < 100) (h4 : m' < 100) (e : clk h m = clk h' m') : h = h' ∧ m = m' := by
  unfold clk at e
  simp only [ByteArray.mk.injEq, Array.mk.injEq, List.cons.injEq, and_true, true_and] at e
  obtain ⟨e1, e2, e3, e4⟩ := e
  have := D10_inj (by omega) (by omega) e1
  have := D10_inj (by omega) (by omega) e2
  have := D10_inj (by omega) (by omega) e3
  have := D10_inj (by omega) (by omega) e4
  omega

theorem clock_text {k : Nat} (h : k ≤ 1439) : g26_0 (k : Int) = clk (k / 60) (k % 60) := by
  unfold g26_0 g38_0
  have e1 : Int.tdiv (k : Int) 60 = ((k / 60 : Nat) : Int) := rfl
  have e2 : Int.tmod (k : Int) 60 = ((k % 60 : Nat) : Int) := rfl
  rw [e1, e2, (pad_two (n := k / 60) (by omega)).2, (pad_two (n := k % 60) (by omega)).2]
  have c1 : (k : Int) ≥ 0 := by omega
  have c2 : (k : Int) ≤ 1439 := by omega
  simp only [c1, c2, decide_true, if_true, Bool.not_true, Bool.false_eq_true, if_false]
  rfl

theorem clock_pre (n : Int) : P26 n := by
  unfold P26
  split
  · trivial
  · rename_i hw
    have hw' : 0 ≤ n ∧ n ≤ 1439 := by
      unfold g38_0 at hw
      by_cases c1 : n ≥ 0
      · by_cases c2 : n ≤ 1439
        · exact ⟨c1, c2⟩
        · simp [c1, c2] at hw
      · simp [c1] at hw
    obtain ⟨k, rfl⟩ : ∃ k : Nat, n = (k : Int) := Int.eq_ofNat_of_zero_le hw'.1
    have e1 : Int.tdiv (k : Int) 60 = ((k / 60 : Nat) : Int) := rfl
    have e2 : Int.tmod (k : Int) 60 = ((k % 60 : Nat) : Int) := rfl
    obtain ⟨p1, q1⟩ := pad_two (n := k / 60) (by omega)
    obtain ⟨p2, q2⟩ := pad_two (n := k % 60) (by omega)
    rw [e1, e2, q1, q2]
    refine ⟨by rw [i64_iff]; omega, p1, ?_, by rw [i64_iff]; omega, p2, ?_, trivial⟩
    · show 2 + 1 ≤ _; decide
    · show 3 + 2 ≤ _; decide

theorem clk_cut {h m : Nat} (h1 : h < 100) (h2 : m < 100) : g24_0 (clk h m) (ByteArray.mk #[58]) = ⟨⟨[D10 (h / 10), D10 (h % 10)]⟩⟩ ∧ g24_1 (clk h m) (ByteArray.mk #[58]) = ⟨⟨[D10 (m / 10), D10 (m % 10)]⟩⟩ := by
  have hn : (58 : UInt8) ∉ [D10 (h / 10), D10 (h % 10)] := fun hm => by
    simp only [List.mem_cons, List.mem_nil_iff, or_false] at hm
    rcases hm with e | e <;> (have := congrArg UInt8.toNat e; rw [D10_nat (by omega)] at this; have e58 : (58 : UInt8).toNat = 58 := rfl; omega)
  have hc : Lib.cut (clk h m).data.toList (ByteArray.mk #[58]).data.toList = ([D10 (h / 10), D10 (h % 10)], [D10 (m / 10), D10 (m % 10)], true) := cut_hit 58 _ hn
  unfold g24_0 g24_1
  rw [hc]
  exact ⟨rfl, rfl⟩

theorem clock_i1 {h m : Nat} (h1 : h ≤ 23) (h2 : m ≤ 59) : g15_0 (clk h m) = ((60 * h + m : Nat) : Int) ∧ g15_1 (clk h m) = true := by
  obtain ⟨c1, c2⟩ := clk_cut (h := h) (m := m) (by omega) (by omega)
  unfold g15_0 g15_1
  rw [c1, c2, number_two (by omega) (by omega), number_two (by omega) (by omega)]
  have e : 60 * ((10 * (h / 10) + h % 10 : Nat) : Int) + ((10 * (m / 10) + m % 10 : Nat) : Int) = ((60 * h + m : Nat) : Int) := by omega
  have e3 : (60 * h + m) / 60 = h := by omega
  have e4 : (60 * h + m) % 60 = m := by omega
  rw [e, clock_text (by omega), e3, e4]
  have ne : ¬ (ByteArray.toList (clk h m) == ByteArray.toList (ByteArray.mk #[])) = true := by
    rw [bytes_eq]
    intro hh
    have := congrArg ByteArray.size hh
    exact absurd (show (5 : Nat) = 0 from this) (by decide)
  rw [if_neg ne, if_neg ne]
  simp

theorem clock_i2 {x : ByteArray} (hx : g15_1 x = true) : ∃ h m : Nat, h ≤ 23 ∧ m ≤ 59 ∧ x = clk h m := by
  unfold g15_1 at hx
  generalize 60 * g25_0 (g24_0 x (ByteArray.mk #[58])) + g25_0 (g24_1 x (ByteArray.mk #[58])) = n at hx
  split at hx
  · cases hx
  · rename_i h0
    split at hx
    · cases hx
    · rename_i h1
      rw [bytes_eq] at h0
      have h1' : g26_0 n = x := by
        rw [← bytes_eq]; simpa using h1
      by_cases hw : 0 ≤ n ∧ n ≤ 1439
      · obtain ⟨k, rfl⟩ : ∃ k : Nat, n = (k : Int) := Int.eq_ofNat_of_zero_le hw.1
        exact ⟨k / 60, k % 60, by omega, by omega, by rw [← h1', clock_text (by omega)]⟩
      · exfalso
        apply h0
        rw [← h1']
        unfold g26_0 g38_0
        by_cases c1 : n ≥ 0
        · have c2 : ¬ n ≤ 1439 := by omega
          simp [c1, c2]
        · simp [c1]

theorem clock_i3 {x : ByteArray} (hx : g15_1 x = false) : g15_0 x = 0 := by
  unfold g15_1 at hx
  unfold g15_0
  split at hx
  · rename_i h; rw [if_pos h]
  · rename_i h
    rw [if_neg h]
    split at hx
    · rename_i h; rw [if_pos h]
    · cases hx

theorem clock_ip {x : ByteArray} (h : x.size ≤ 1048576) : P15 x := by
  unfold P15
  have b1 := number_bound (g24_0 x (ByteArray.mk #[58]))
  have b2 := number_bound (g24_1 x (ByteArray.mk #[58]))
  refine ⟨(show x.size < 4294967281 from by omega), by rw [i64_iff]; omega, by rw [i64_iff]; omega, ?_⟩
  split
  · trivial
  · exact ⟨clock_pre _, trivial⟩

end Go.Proofs.YtmigieemhbnmpaaDoor

/- A law that says how functions of the program and of the specification hang together. -/
set_option linter.unusedVariables false
set_option linter.unusedSimpArgs false
set_option maxRecDepth 100000
namespace Go.Proofs.YtmigieemhbnmpaaDoor
open Go Go.Am Go.Proofs

theorem clk_ex {h m : Nat} : ByteArray.extract (clk h m) 0 2 = ⟨⟨[D10 (h / 10), D10 (h % 10)]⟩⟩ ∧ ByteArray.extract (clk h m) 3 (Int.toNat (((clk h m).size : Nat) : Int)) = ⟨⟨[D10 (m / 10), D10 (m % 10)]⟩⟩ :=
  ⟨Lib.extract_mk [D10 (h / 10), D10 (h % 10), 58, D10 (m / 10), D10 (m % 10)] 0 2, Lib.extract_mk [D10 (h / 10), D10 (h % 10), 58, D10 (m / 10), D10 (m % 10)] 3 5⟩

theorem clock_s1 {h m : Nat} (h1 : h ≤ 23) (h2 : m ≤ 59) : g18_0 (clk h m) = ((60 * h + m : Nat) : Int) ∧ g18_1 (clk h m) = true := by
  obtain ⟨c1, c2⟩ := clk_ex (h := h) (m := m)
  obtain ⟨d1, d2⟩ := digits_two (a := h / 10) (b := h % 10) (by omega) (by omega)
  obtain ⟨d3, d4⟩ := digits_two (a := m / 10) (b := m % 10) (by omega) (by omega)
  unfold g18_0 g18_1
  rw [c1, c2, d1, d2, d3, d4]
  have e0 : (((clk h m).size : Int) != 5) = false := rfl
  have e1 : (((List.getD (Array.toList (ByteArray.data (clk h m))) 2 0).toNat : Int) != 58) = false := rfl
  have e2 : ¬ ((10 * (h / 10) + h % 10 : Nat) : Int) > 23 := by omega
  have e3 : ¬ ((10 * (m / 10) + m % 10 : Nat) : Int) > 59 := by omega
  simp only [e0, e1, e2, e3, Bool.not_true, Bool.false_eq_true, if_false, decide_false, and_true]
  omega

theorem five : ∀ {l : List UInt8}, l.length = 5 → ∃ a b c d e, l = [a, b, c, d, e]
  | [a, b, c, d, e], _ => ⟨a, b, c, d, e, rfl⟩

theorem clock_s2 {x : ByteArray} (hx : g18_1 x = true) : ∃ h m : Nat, h ≤ 23 ∧ m ≤ 59 ∧ x = clk h m := by
  obtain ⟨⟨l⟩⟩ := x
  unfold g18_1 at hx
  by_cases h5 : l.length = 5
  · obtain ⟨a, b, c, d, e, rfl⟩ := five h5
    have x1 : ByteArray.extract ⟨⟨[a, b, c, d, e]⟩⟩ 0 2 = ⟨⟨[a, b]⟩⟩ := Lib.extract_mk [a, b, c, d, e] 0 2
    have x2 : ByteArray.extract ⟨⟨[a, b, c, d, e]⟩⟩ 3 (Int.toNat (((ByteArray.mk ⟨[a, b, c, d, e]⟩).size : Nat) : Int)) = ⟨⟨[d, e]⟩⟩ := Lib.extract_mk [a, b, c, d, e] 3 5
    rw [x1, x2] at hx
    split at hx
    · cases hx
    · split at hx
      · cases hx
      · rename_i hc
        have hc' : c = 58 := by
          rw [← UInt8.toNat_inj]
          have : ((c.toNat : Nat) : Int) = 58 := by simpa using hc
          have e58 : (58 : UInt8).toNat = 58 := rfl
          omega
        split at hx
        · cases hx
        · rename_i g1
          split at hx
          · cases hx
          · rename_i g2
            split at hx
            · cases hx
            · rename_i l1
              split at hx
              · cases hx
              · rename_i l2
                have g1' : g29_1 ⟨⟨[a, b]⟩⟩ = true := by simpa using g1
                have g2' : g29_1 ⟨⟨[d, e]⟩⟩ = true := by simpa using g2
                have a1 := digits_all [a, b] 0 g1'
                have a2 := digits_all [d, e] 0 g2'
                have ha := a1 a (by simp)
                have hb := a1 b (by simp)
                have hd := a2 d (by simp)
                have he := a2 e (by simp)
                obtain ⟨a, la, rfl⟩ : ∃ a' : Nat, a' < 10 ∧ a = D10 a' := ⟨a.toNat - 48, by omega, D10_of ha⟩
                obtain ⟨b, lb, rfl⟩ : ∃ a' : Nat, a' < 10 ∧ b = D10 a' := ⟨b.toNat - 48, by omega, D10_of hb⟩
                obtain ⟨d, ld, rfl⟩ : ∃ a' : Nat, a' < 10 ∧ d = D10 a' := ⟨d.toNat - 48, by omega, D10_of hd⟩
                obtain ⟨e, le, rfl⟩ : ∃ a' : Nat, a' < 10 ∧ e = D10 a' := ⟨e.toNat - 48, by omega, D10_of he⟩
                rw [(digits_two la lb).1] at l1
                rw [(digits_two ld le).1] at l2
                simp only [decide_eq_true_eq] at l1 l2
                refine ⟨10 * a + b, 10 * d + e, by omega, by omega, ?_⟩
                unfold clk
                rw [show (10 * a + b) / 10 = a by omega, show (10 * a + b) % 10 = b by omega, show (10 * d + e) / 10 = d by omega, show (10 * d + e) % 10 = e by omega, hc']
  · rw [if_pos (by
      have : (ByteArray.mk ⟨l⟩).size = l.length := rfl
      rw [this]
      have : (l.length : Int) ≠ 5 := by omega
      simpa using this)] at hx
    cases hx

theorem clock_s3 {x : ByteArray} (hx : g18_1 x = false) : g18_0 x = 0 := by
  unfold g18_1 at hx
  unfold g18_0
  split at hx
  · rename_i h; rw [if_pos h]
  · rename_i h
    rw [if_neg h]
    split at hx
    · rename_i h; rw [if_pos h]
    · rename_i h
      rw [if_neg h]
      split at hx
      · rename_i h; rw [if_pos h]
      · rename_i h
        rw [if_neg h]
        split at hx
        · rename_i h; rw [if_pos h]
        · rename_i h
          rw [if_neg h]
          split at hx
          · rename_i h; rw [if_pos h]
          · rename_i h
            rw [if_neg h]
            split at hx
            · rename_i h; rw [if_pos h]
            · cases hx

theorem dig_nonneg : ∀ (l : List UInt8) (n : Int), 0 ≤ n → 0 ≤ (dig29 l n).1
  | [], _, h => h
  | c :: r, n, h => by
    unfold dig29
    split
    · rename_i hd
      have hd' : 48 ≤ c.toNat ∧ c.toNat ≤ 57 := by unfold d29 at hd; simpa using hd
      exact dig_nonneg r _ (by omega)
    · exact Int.le_refl _

theorem digits_nonneg (x : ByteArray) : 0 ≤ g29_0 x := dig_nonneg _ 0 (Int.le_refl _)

theorem clock_sp (x : ByteArray) : P18 x := by
  unfold P18
  split
  · trivial
  · rename_i h
    have h5 : x.size = 5 := by
      have : (x.size : Int) = 5 := by simpa using h
      omega
    have s1 : (ByteArray.extract x 0 2).size ≤ 5 := by
      rw [ByteArray.size_extract]; omega
    have s2 : (ByteArray.extract x 3 (Int.toNat (x.size : Int))).size ≤ 5 := by
      rw [ByteArray.size_extract]; omega
    refine ⟨by omega, ?_⟩
    split
    · trivial
    · refine ⟨by omega, (show (ByteArray.extract x 0 2).size ≤ 18 from by omega), by omega, (show (ByteArray.extract x 3 (Int.toNat (x.size : Int))).size ≤ 18 from by omega), ?_⟩
      split
      · trivial
      · split
        · trivial
        · split
          · trivial
          · rename_i l1
            split
            · trivial
            · rename_i l2
              simp only [decide_eq_true_eq] at l1 l2
              have n1 := digits_nonneg (ByteArray.extract x 0 2)
              have n2 := digits_nonneg (ByteArray.extract x 3 (Int.toNat (x.size : Int)))
              exact ⟨by rw [i64_iff]; omega, by rw [i64_iff]; omega, trivial⟩

theorem read_clock (x : ByteArray) (h : x.size ≤ 1048576) : P18 x ∧ P15 x ∧ g15_0 x = g18_0 x ∧ g15_1 x = g18_1 x := by
  refine ⟨clock_sp x, clock_ip h, ?_⟩
  cases hs : g18_1 x with
  | true =>
    obtain ⟨a, b, ha, hb, rfl⟩ := clock_s2 hs
    obtain ⟨i0, i1⟩ := clock_i1 ha hb
    obtain ⟨s0, s1⟩ := clock_s1 ha hb
    rw [i0, s0]
    exact ⟨rfl, i1⟩
  | false =>
    cases hi : g15_1 x with
    | true =>
      obtain ⟨a, b, ha, hb, rfl⟩ := clock_i2 hi
      rw [(clock_s1 ha hb).2] at hs
      cases hs
    | false => exact ⟨(clock_i3 hi).trans (clock_s3 hs).symm, rfl⟩

end Go.Proofs.YtmigieemhbnmpaaDoor

/- A law that says how functions of the program and of the specification hang together. -/
set_option linter.unusedVariables false
set_option linter.unusedSimpArgs false
set_option maxRecDepth 100000
namespace Go.Proofs.YtmigieemhbnmpaaDoor
open Go Go.Am Go.Proofs

/-- Texts that are split at a blank. -/
theorem app_list (a b : ByteArray) : (a ++ b).data.toList = a.data.toList ++ b.data.toList := by
  rw [ByteArray.data_append, Array.toList_append]

theorem bytes_ext {a b : ByteArray} (h : a.data.toList = b.data.toList) : a = b := by
  obtain ⟨⟨l⟩⟩ := a
  obtain ⟨⟨m⟩⟩ := b
  simp at h
  rw [h]

theorem split_two {x : List UInt8} {k : UInt8} {a b : List UInt8} (h : splitC k x = [a, b]) : x = a ++ k :: b := by
  have := splitC_join k x
  rw [h] at this
  rw [← this]
  simp [List.intercalate]

theorem split_three {x : List UInt8} {k : UInt8} {a b c : List UInt8} (h : splitC k x = [a, b, c]) : x = a ++ k :: (b ++ k :: c) := by
  have := splitC_join k x
  rw [h] at this
  rw [← this]
  simp [List.intercalate]

theorem split_of_two {k : UInt8} {a b : List UInt8} (ha : k ∉ a) (hb : k ∉ b) : splitC k (a ++ k :: b) = [a, b] := by
  rw [splitC_hit k _ ha, splitC_free k hb]

theorem split_of_three {k : UInt8} {a b c : List UInt8} (ha : k ∉ a) (hb : k ∉ b) (hc : k ∉ c) : splitC k (a ++ k :: (b ++ k :: c)) = [a, b, c] := by
  rw [splitC_hit k _ ha, splitC_hit k _ hb, splitC_free k hc]

theorem list_three {α : Type} : ∀ {l : List α}, l.length = 3 → ∃ a b c, l = [a, b, c]
  | [a, b, c], _ => ⟨a, b, c, rfl⟩
theorem list_two {α : Type} : ∀ {l : List α}, l.length = 2 → ∃ a b, l = [a, b]
  | [a, b], _ => ⟨a, b, rfl⟩

end Go.Proofs.YtmigieemhbnmpaaDoor

/- A law that says how functions of the program and of the specification hang together. -/
set_option linter.unusedVariables false
set_option linter.unusedSimpArgs false
set_option maxRecDepth 100000
namespace Go.Proofs.YtmigieemhbnmpaaDoor
open Go Go.Am Go.Proofs
theorem name_eq (s : ByteArray) : g27_0 s = g19_0 s := by
  have hs : ∀ c, g30_0 c = (decide (97 ≤ c) && decide (c ≤ 122)) := fun c => by
    unfold g30_0
    by_cases h1 : (97 : Int) ≤ c <;> simp [h1]
  have hd : ∀ c, g31_0 c = (decide (48 ≤ c) && decide (c ≤ 57)) := fun c => by
    unfold g31_0
    by_cases h1 : (48 : Int) ≤ c <;> simp [h1]
  unfold g27_0 g19_0
  have hl := bytesOf_length s
  by_cases h1 : 1 ≤ s.size
  · cases hb : bytesOf s with
    | nil => rw [hb] at hl; simp at hl; omega
    | cons c r =>
      have hr : allI ok27 1 r = r.all fun b => g30_0 b || g31_0 b := by
        rw [← allI_plain (fun b => g30_0 b || g31_0 b) r 1]
        refine allI_congr r 1 fun j x hj => ?_
        have : (j == 0) = false := by simp; omega
        simp only [ok27, this, hs, hd, Bool.not_false, Bool.true_and]
      have h0 : ok27 0 c = g30_0 c := by simp [ok27, hs]
      simp only [allI, hr, h0, List.all_cons, List.getD_cons_zero]
      cases g30_0 c <;> simp
  · simp [h1]


end Go.Proofs.YtmigieemhbnmpaaDoor

/- A law that says how functions of the program and of the specification hang together. -/
set_option linter.unusedVariables false
set_option linter.unusedSimpArgs false
set_option maxRecDepth 100000
namespace Go.Proofs.YtmigieemhbnmpaaDoor
open Go Go.Am Go.Proofs

theorem clk_24 : clk 24 0 = ByteArray.mk #[50, 52, 58, 48, 48] := rfl

theorem clk_blank {h m : Nat} (h1 : h < 100) (h2 : m < 100) : (32 : UInt8) ∉ (clk h m).data.toList := by
  show (32 : UInt8) ∉ [D10 (h / 10), D10 (h % 10), 58, D10 (m / 10), D10 (m % 10)]
  intro hm
  have e32 : (32 : UInt8).toNat = 32 := rfl
  simp only [List.mem_cons, List.mem_nil_iff, or_false] at hm
  rcases hm with e | e | e | e | e
  · have := congrArg UInt8.toNat e; rw [D10_nat (by omega)] at this; omega
  · have := congrArg UInt8.toNat e; rw [D10_nat (by omega)] at this; omega
  · exact absurd e (by decide)
  · have := congrArg UInt8.toNat e; rw [D10_nat (by omega)] at this; omega
  · have := congrArg UInt8.toNat e; rw [D10_nat (by omega)] at this; omega

theorem clk_size (h m : Nat) : (clk h m).size = 5 := rfl

/-- The text of a minute of a day, or of the one behind the last. -/
theorem day_text {n : Nat} (h : n ≤ 1440) : g17_0 (n : Int) = clk (n / 60) (n % 60) := by
  unfold g17_0
  by_cases e : n = 1440
  · subst e
    rw [if_pos (by decide)]
    rfl
  · rw [if_neg (by rw [beq_iff_eq]; omega), clock_text (by omega)]

theorem day_pre (n : Int) : P17 n := by
  unfold P17
  split
  · trivial
  · exact ⟨clock_pre n, trivial⟩

theorem day_i {n : Nat} (h : n ≤ 1440) : g9_0 (clk (n / 60) (n % 60)) = (n : Int) := by
  unfold g9_0
  by_cases e : n = 1440
  · subst e
    have e24 : (ByteArray.toList (clk (1440 / 60) (1440 % 60)) == ByteArray.toList (ByteArray.mk #[50, 52, 58, 48, 48])) = true := (bytes_eq _ _).2 rfl
    rw [if_pos e24]
    rfl
  · rw [if_neg (fun hh => by
      rw [bytes_eq, ← clk_24] at hh
      have := clk_inj (by omega) (by omega) (by omega) (by omega) hh
      omega)]
    rw [(clock_i1 (h := n / 60) (m := n % 60) (by omega) (by omega)).1]
    omega

theorem day_s {n : Nat} (h : n ≤ 1440) : g12_0 (clk (n / 60) (n % 60)) = (n : Int) ∧ g12_1 (clk (n / 60) (n % 60)) = true := by
  unfold g12_0 g12_1
  by_cases e : n = 1440
  · subst e
    have e24 : (ByteArray.toList (clk (1440 / 60) (1440 % 60)) == ByteArray.toList (ByteArray.mk #[50, 52, 58, 48, 48])) = true := (bytes_eq _ _).2 rfl
    rw [if_pos e24, if_pos e24]
    exact ⟨rfl, rfl⟩
  · have hne : ¬ (ByteArray.toList (clk (n / 60) (n % 60)) == ByteArray.toList (ByteArray.mk #[50, 52, 58, 48, 48])) = true := fun hh => by
      rw [bytes_eq, ← clk_24] at hh
      have := clk_inj (by omega) (by omega) (by omega) (by omega) hh
      omega
    rw [if_neg hne, if_neg hne]
    obtain ⟨e0, e1⟩ := clock_s1 (h := n / 60) (m := n % 60) (by omega) (by omega)
    rw [e0, e1]
    exact ⟨by omega, rfl⟩

theorem day_s2 {x : ByteArray} (hx : g12_1 x = true) : ∃ n : Nat, n ≤ 1440 ∧ x = clk (n / 60) (n % 60) := by
  unfold g12_1 at hx
  split at hx
  · rename_i h
    exact ⟨1440, Nat.le_refl _, (bytes_eq _ _).1 h⟩
  · obtain ⟨h, m, h1, h2, rfl⟩ := clock_s2 hx
    exact ⟨60 * h + m, by omega, by rw [show (60 * h + m) / 60 = h by omega, show (60 * h + m) % 60 = m by omega]⟩

theorem day_ip {x : ByteArray} (h : x.size ≤ 1048576) : P9 x := by
  unfold P9
  split
  · trivial
  · exact ⟨clock_ip h, trivial⟩
theorem day_sp (x : ByteArray) : P12 x := by
  unfold P12
  split
  · trivial
  · exact ⟨clock_sp x, trivial⟩

theorem minute_i (n : Int) : g28_0 n = (decide (0 ≤ n) && decide (n ≤ 1440)) := by
  unfold g28_0 g38_0
  by_cases c1 : n ≥ 0
  · have c1' : 0 ≤ n := c1
    by_cases c2 : n ≤ 1440 <;> simp [c1, c2]
  · have c1' : ¬ 0 ≤ n := c1
    simp [c1']
theorem minute_s (n : Int) : g20_0 n = (decide (0 ≤ n) && decide (n ≤ 1440)) := by
  unfold g20_0 g32_0
  by_cases c1 : n ≥ 0
  · have c1' : 0 ≤ n := c1
    by_cases c2 : n ≤ 1440 <;> simp [c1, c2]
  · have c1' : ¬ 0 ≤ n := c1
    simp [c1']

theorem worker_eq (x : ByteArray × Int × Int × Unit) : g13_0 x = g16_0 x := by
  unfold g13_0 g16_0
  rw [name_eq]
  simp only [minute_i, minute_s]

theorem worker_mins {a : ByteArray} {n m : Int} (h : g16_0 (a, n, m, ()) = true) : 0 ≤ n ∧ n ≤ 1440 ∧ 0 ≤ m ∧ m ≤ 1440 := by
  unfold g16_0 at h
  simp only [minute_i] at h
  split at h
  · split at h
    · rename_i h1
      split at h
      · rename_i h2
        simp only [Bool.and_eq_true, decide_eq_true_eq] at h1 h2
        exact ⟨h1.1, h1.2, h2.1, h2.2⟩
      · cases h
    · cases h
  · cases h

end Go.Proofs.YtmigieemhbnmpaaDoor

/- The plain law of FnExactReadWorker. -/
set_option linter.unusedVariables false
set_option linter.unusedSimpArgs false
set_option maxRecDepth 100000
namespace Go.Proofs.YtmigieemhbnmpaaDoor
open Go Go.Am Go.Proofs

theorem wtFW {a : ByteArray} {n m : Nat} (h : g16_0 (a, (n : Int), (m : Int), ()) = true) (hn : n ≤ 1440) (hm : m ≤ 1440) :
    (g10_0 (a, (n : Int), (m : Int), ())).data.toList = a.data.toList ++ 32 :: ((clk (n / 60) (n % 60)).data.toList ++ 32 :: (clk (m / 60) (m % 60)).data.toList) := by
  unfold g10_0
  rw [if_neg (by rw [h]; simp)]
  simp only [day_text hn, day_text hm, app_list, List.append_assoc]
  rfl

theorem ptFW (a : ByteArray) (n m : Int) (hs : a.size ≤ 1048576) : P10 (a, n, m, ()) := by
  unfold P10
  split
  · trivial
  · rename_i h
    obtain ⟨h1, h2, h3, h4⟩ := worker_mins (a := a) (n := n) (m := m) (by simpa using h)
    obtain ⟨n, rfl⟩ := Int.eq_ofNat_of_zero_le h1
    obtain ⟨m, rfl⟩ := Int.eq_ofNat_of_zero_le h3
    have e1 : (ByteArray.mk #[32]).size = 1 := rfl
    simp only [day_text (show n ≤ 1440 by omega), day_text (show m ≤ 1440 by omega), ByteArray.size_append, clk_size, e1]
    exact ⟨by omega, day_pre _, by omega, by omega, day_pre _, by omega, trivial⟩

theorem law3 (x : ByteArray) (hw : Wf .str x) : P3 x ∧ g3_0 x = true := by
  unfold P3 g3_0
  by_cases h : (x.size : Int) > 1048576
  · simp only [h, decide_true, if_true, and_self]
  · have hx : x.size ≤ 1048576 := by omega
    have hsp : g8_0 x (ByteArray.mk #[32]) = bss (splitC 32 x.data.toList) := splitB_one 32 x
    have hss : g11_0 x 32 = bss (splitC 32 x.data.toList) := rfl
    have hps : P8 x (ByteArray.mk #[32]) := ⟨by omega, Nat.le_refl 1⟩
    have hpp : P11 x 32 := ⟨by omega, by omega, by omega⟩
    have key : P4 x ∧ P5 x ∧ g5_0 x = g4_0 x ∧ g5_1 x = g4_1 x := by
      unfold P4 P5 g5_0 g5_1 g4_0 g4_1 P7 g7_0 g7_1
      rw [hsp, hss]
      by_cases h3 : (splitC 32 x.data.toList).length = 3
      · obtain ⟨a, b, c, e⟩ := list_three h3
        have hj := split_three e
        have hsz : x.data.toList.length = x.size := rfl
        rw [hj] at hsz
        simp only [List.length_append, List.length_cons] at hsz
        rw [e]
        have e0 : bss [a, b, c] = [⟨⟨a⟩⟩, ⟨⟨b⟩⟩, ⟨⟨c⟩⟩] := rfl
        rw [e0]
        have n0 : ((([(⟨⟨a⟩⟩ : ByteArray), ⟨⟨b⟩⟩, ⟨⟨c⟩⟩].length : Nat) : Int) != 3) = false := rfl
        have d0 : List.getD [(⟨⟨a⟩⟩ : ByteArray), ⟨⟨b⟩⟩, ⟨⟨c⟩⟩] 0 ByteArray.empty = ⟨⟨a⟩⟩ := rfl
        have d1 : List.getD [(⟨⟨a⟩⟩ : ByteArray), ⟨⟨b⟩⟩, ⟨⟨c⟩⟩] 1 ByteArray.empty = ⟨⟨b⟩⟩ := rfl
        have d2 : List.getD [(⟨⟨a⟩⟩ : ByteArray), ⟨⟨b⟩⟩, ⟨⟨c⟩⟩] 2 ByteArray.empty = ⟨⟨c⟩⟩ := rfl
        have l0 : (0 : Int) < (([(⟨⟨a⟩⟩ : ByteArray), ⟨⟨b⟩⟩, ⟨⟨c⟩⟩].length : Nat) : Int) := by show (0 : Int) < 3; decide
        have l1 : (1 : Int) < (([(⟨⟨a⟩⟩ : ByteArray), ⟨⟨b⟩⟩, ⟨⟨c⟩⟩].length : Nat) : Int) := by show (1 : Int) < 3; decide
        have l2 : (2 : Int) < (([(⟨⟨a⟩⟩ : ByteArray), ⟨⟨b⟩⟩, ⟨⟨c⟩⟩].length : Nat) : Int) := by show (2 : Int) < 3; decide
        have za : (⟨⟨a⟩⟩ : ByteArray).size = a.length := rfl
        have zb : (⟨⟨b⟩⟩ : ByteArray).size = b.length := rfl
        have zc : (⟨⟨c⟩⟩ : ByteArray).size = c.length := rfl
        have pb := day_ip (x := ⟨⟨b⟩⟩) (by omega)
        have pc := day_ip (x := ⟨⟨c⟩⟩) (by omega)
        simp only [n0, d0, d1, d2, l0, l1, l2, Bool.false_eq_true, if_false, true_and, and_true]
        refine ⟨⟨hpp, day_sp _, day_sp _⟩, ⟨hps, pb, pc, ptFW _ _ _ (by omega)⟩, ?_⟩
        have free := splitC_free_mem 32 x.data.toList
        rw [e] at free
        have fa := free a (by simp)
        by_cases hS : g12_1 ⟨⟨b⟩⟩ = true ∧ g12_1 ⟨⟨c⟩⟩ = true ∧ g13_0 (⟨⟨a⟩⟩, g12_0 ⟨⟨b⟩⟩, g12_0 ⟨⟨c⟩⟩, ()) = true
        · obtain ⟨s1, s2, s3⟩ := hS
          obtain ⟨n, hn, eb⟩ := day_s2 s1
          obtain ⟨m, hm, ec⟩ := day_s2 s2
          rw [s1, s2, s3]
          rw [eb, ec, (day_s hn).1, (day_s hm).1, worker_eq] at s3
          rw [eb, ec, (day_s hn).1, (day_s hm).1, day_i hn, day_i hm]
          have ht : g10_0 (⟨⟨a⟩⟩, (n : Int), (m : Int), ()) = x := by
            refine bytes_ext ?_
            rw [wtFW s3 hn hm, hj]
            rw [← eb, ← ec]
          rw [ht]
          simp
        · have hI : ¬ g10_0 (⟨⟨a⟩⟩, g9_0 ⟨⟨b⟩⟩, g9_0 ⟨⟨c⟩⟩, ()) = x := by
            intro ht
            by_cases hv : g16_0 (⟨⟨a⟩⟩, g9_0 ⟨⟨b⟩⟩, g9_0 ⟨⟨c⟩⟩, ()) = true
            · obtain ⟨h1, h2, h3, h4⟩ := worker_mins hv
              obtain ⟨n, en⟩ := Int.eq_ofNat_of_zero_le h1
              obtain ⟨m, em⟩ := Int.eq_ofNat_of_zero_le h3
              rw [en] at h2
              rw [em] at h4
              rw [en, em] at ht hv
              have hn : n ≤ 1440 := by omega
              have hm : m ≤ 1440 := by omega
              have hd := wtFW hv hn hm
              rw [ht] at hd
              have hsx := split_of_three (k := 32) fa (clk_blank (h := n / 60) (m := n % 60) (by omega) (by omega)) (clk_blank (h := m / 60) (m := m % 60) (by omega) (by omega))
              rw [← hd, e] at hsx
              simp only [List.cons.injEq, and_true] at hsx
              obtain ⟨_, eb, ec⟩ := hsx
              have eb' : (⟨⟨b⟩⟩ : ByteArray) = clk (n / 60) (n % 60) := bytes_ext eb
              have ec' : (⟨⟨c⟩⟩ : ByteArray) = clk (m / 60) (m % 60) := bytes_ext ec
              refine hS ⟨?_, ?_, ?_⟩
              · rw [eb']; exact (day_s hn).2
              · rw [ec']; exact (day_s hm).2
              · rw [eb', ec', (day_s hn).1, (day_s hm).1, worker_eq]; exact hv
            · unfold g10_0 at ht
              rw [if_pos (by simpa using hv)] at ht
              rw [← ht] at hj
              have := congrArg List.length hj
              simp at this
          have hI' : (!ByteArray.toList (g10_0 (⟨⟨a⟩⟩, g9_0 ⟨⟨b⟩⟩, g9_0 ⟨⟨c⟩⟩, ())) == ByteArray.toList x) = true := by
            rw [Bool.not_eq_true', Bool.eq_false_iff]
            exact fun hh => hI ((bytes_eq _ _).1 hh)
          rw [if_pos hI', if_pos hI']
          cases s1 : g12_1 ⟨⟨b⟩⟩ with
          | false => simp
          | true =>
            cases s2 : g12_1 ⟨⟨c⟩⟩ with
            | false => simp
            | true =>
              cases s3 : g13_0 (⟨⟨a⟩⟩, g12_0 ⟨⟨b⟩⟩, g12_0 ⟨⟨c⟩⟩, ()) with
              | false => simp
              | true => exact absurd ⟨s1, s2, s3⟩ hS
      · have hl : ((bss (splitC 32 x.data.toList)).length : Int) ≠ 3 := by
          unfold bss; rw [List.length_map]; omega
        have hl' : (((bss (splitC 32 x.data.toList)).length : Int) != 3) = true := by simpa using hl
        simp only [hl', if_true, and_true]
        exact ⟨hpp, hps⟩
    obtain ⟨p1, p2, e0, e1⟩ := key
    have heq : ∀ y : ByteArray × Int × Int × Unit, g6_0 y y = true := fun y => by
      unfold g6_0; simp
    simp only [h, decide_false, Bool.false_eq_true, if_false, e0, e1, p1, p2, heq, beq_self_eq_true, Bool.not_true, true_and, and_self]

end Go.Proofs.YtmigieemhbnmpaaDoor
