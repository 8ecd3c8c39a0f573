/- Several texts in one: the functions that this law reaches, and their laws. -/
import Derived.Test.YtpoajfdfmiafnaaGreatDoorZ3A
import Derived.Test.YtpoajfdfmiafnaaGreatDoorZ3B
import Derived.Test.YtpoajfdfmiafnaaGreatDoorZ3C
import Derived.Lib.TrimByte
import Derived.Shelf.Strings.Builder1
import Derived.Shelf.Strings.Builder2
import Derived.Shelf.Strings.OnBuilder
import Derived.Shelf.Strings.Trim
import Derived.Shelf.Small.Utf8
import Derived.Shelf.Small.Strs
import Derived.Shelf.Strings.BuilderF
import Derived.Shelf.Strings.BuilderK
import Derived.Shelf.Strconv.Itoa0
import Derived.Shelf.Strconv.Itoa1
import Derived.Shelf.LaysM
import Derived.Shelf.Strconv.Itoa2
import Derived.Shelf.Strconv.Itoa3
import Derived.Shelf.Strconv.Itoa4
import Derived.Shelf.Strings.Search1
import Derived.Shelf.Strings.Prefix
import Derived.Shelf.Unicode.Decode
import Derived.Shelf.Strings.Runes
import Derived.Shelf.Strings.AsciiSet
import Derived.Shelf.Bits.Mul64
import Derived.Shelf.Strings.Repeat
import Derived.Shelf.Unicode.DecodeSlow
import Derived.Shelf.Unicode.DecodeAny

/- Function 17 (spec.l30Table): its runs between cut points. Written by a program of this repo (gen). -/
set_option linter.unusedVariables false
set_option linter.unusedSimpArgs false
set_option maxRecDepth 100000
namespace Go.Proofs.YtpoajfdfmiafnaaGreatDoor
open Go Go.Am Go.Proofs
noncomputable section
def ext17 : Ext := []
theorem ext17Ok : ExtOk Tryz.prog ext17 := trivial

noncomputable def b17 : Code := bodyOf Tryz.f17
theorem hb17 : Tryz.f17.body = some b17 := by kernel_rfl
def sig17 : List AT := [AT.v (Ty.sl (Ty.sl Ty.str))]
def tys17 : List Ty := [Ty.sl Ty.str]
def kds17 : List RK := []
def oks17 : List AT := owns sig17
def E17_3 (v4 : Int) (h0 : List Int) (x0 : List (List ByteArray)) : Env := [(0, PV.a (Atom.sl (Ty.sl Ty.str) x0)), (3, PV.a (Atom.osl 0 Option.none)), (4, PV.a (Atom.val (Value.int IntKind.i64 v4)))]
def L17_3 (v4 : Int) (h0 : List Int) (x0 : List (List ByteArray)) : Heap := [Option.some (Arr.mk (Ty.int IntKind.i64) h0 Bool.false Option.none Option.none)]
def E17_6 (v5 : Int) (h0 : List Int) (x0 : List (List ByteArray)) (v4 : Int) : Env := [(0, PV.a (Atom.sl (Ty.sl Ty.str) x0)), (3, PV.a (Atom.osl 0 Option.none)), (4, PV.a (Atom.val (Value.int IntKind.i64 v4))), (5, PV.a (Atom.val (Value.int IntKind.i64 v5)))]
def L17_6 (v5 : Int) (h0 : List Int) (x0 : List (List ByteArray)) (v4 : Int) : Heap := [Option.some (Arr.mk (Ty.int IntKind.i64) h0 Bool.false Option.none Option.none)]
def E17_12 (v7 : Int) (h1 : List ByteArray) (x0 : List (List ByteArray)) (h0 : List Int) : Env := [(0, PV.a (Atom.sl (Ty.sl Ty.str) x0)), (3, PV.a (Atom.osl 0 Option.none)), (6, PV.a (Atom.osl 1 Option.none)), (7, PV.a (Atom.val (Value.int IntKind.i64 v7)))]
def L17_12 (v7 : Int) (h1 : List ByteArray) (x0 : List (List ByteArray)) (h0 : List Int) : Heap := [Option.some (Arr.mk (Ty.int IntKind.i64) h0 Bool.false Option.none Option.none), Option.some (Arr.mk Ty.str h1 Bool.false Option.none Option.none)]
def E17_16 (v8 : ByteArray) (v9 : Int) (x0 : List (List ByteArray)) (v7 : Int) (h0 : List Int) (h1 : List ByteArray) : Env := [(0, PV.a (Atom.sl (Ty.sl Ty.str) x0)), (3, PV.a (Atom.osl 0 Option.none)), (6, PV.a (Atom.osl 1 Option.none)), (7, PV.a (Atom.val (Value.int IntKind.i64 v7))), (8, PV.a (Atom.val (Value.string v8))), (9, PV.a (Atom.val (Value.int IntKind.i64 v9)))]
def L17_16 (v8 : ByteArray) (v9 : Int) (x0 : List (List ByteArray)) (v7 : Int) (h0 : List Int) (h1 : List ByteArray) : Heap := [Option.some (Arr.mk (Ty.int IntKind.i64) h0 Bool.false Option.none Option.none), Option.some (Arr.mk Ty.str h1 Bool.false Option.none Option.none)]
def E17_22 (v8 : ByteArray) (v10 : Int) (x0 : List (List ByteArray)) (v7 : Int) (v9 : Int) (h0 : List Int) (h1 : List ByteArray) : Env := [(0, PV.a (Atom.sl (Ty.sl Ty.str) x0)), (3, PV.a (Atom.osl 0 Option.none)), (6, PV.a (Atom.osl 1 Option.none)), (7, PV.a (Atom.val (Value.int IntKind.i64 v7))), (8, PV.a (Atom.val (Value.string v8))), (9, PV.a (Atom.val (Value.int IntKind.i64 v9))), (10, PV.a (Atom.val (Value.int IntKind.i64 v10)))]
def L17_22 (v8 : ByteArray) (v10 : Int) (x0 : List (List ByteArray)) (v7 : Int) (v9 : Int) (h0 : List Int) (h1 : List ByteArray) : Heap := [Option.some (Arr.mk (Ty.int IntKind.i64) h0 Bool.false Option.none Option.none), Option.some (Arr.mk Ty.str h1 Bool.false Option.none Option.none)]
def E17_25 (x0 : List (List ByteArray)) (v7 : Int) (v8 : ByteArray) (h0 : List Int) (h1 : List ByteArray) : Env := [(0, PV.a (Atom.sl (Ty.sl Ty.str) x0)), (3, PV.a (Atom.osl 0 Option.none)), (6, PV.a (Atom.osl 1 Option.none)), (7, PV.a (Atom.val (Value.int IntKind.i64 v7))), (8, PV.a (Atom.val (Value.string v8)))]
def L17_25 (x0 : List (List ByteArray)) (v7 : Int) (v8 : ByteArray) (h0 : List Int) (h1 : List ByteArray) : Heap := [Option.some (Arr.mk (Ty.int IntKind.i64) h0 Bool.false Option.none Option.none), Option.some (Arr.mk Ty.str h1 Bool.false Option.none Option.none)]
mutual
def R17 : Nat → List (List ByteArray) → List Dyn → Prop
  | 0, _, _ => False
  | n + 1, x0, ds => (R17_3 n (0) ([0, 0, 0, 0, 0, 0, 0, 0, 0, 0, 0, 0]) (x0) ds)
def R17_3 : Nat → Int → List Int → List (List ByteArray) → List Dyn → Prop
  | 0, _, _, _, _ => False
  | n + 1, v4, h0, x0, ds => (if (Decidable.decide (v4 < (↑(List.length x0) : Int))) = true then (R17_6 n (0) (h0) (x0) (v4) ds) else (R17_12 n (0) ([]) (x0) (h0) ds))
def R17_6 : Nat → Int → List Int → List (List ByteArray) → Int → List Dyn → Prop
  | 0, _, _, _, _, _ => False
  | n + 1, v5, h0, x0, v4, ds => ((0 ≤ v4) ∧ (v4 < (↑(List.length x0) : Int)) ∧ (if (Decidable.decide (v5 < (↑(List.length (List.getD x0 (Int.toNat v4) [])) : Int))) = true then ((0 ≤ v4) ∧ (v4 < (↑(List.length x0) : Int)) ∧ ((0 ≤ v5) ∧ (v5 < (↑(List.length (List.getD x0 (Int.toNat v4) [])) : Int)) ∧ ((0 ≤ v5) ∧ (v5 < (↑(List.length h0) : Int)) ∧ (if (Decidable.decide ((↑(ByteArray.size (List.getD (List.getD x0 (Int.toNat v4) []) (Int.toNat v5) ByteArray.empty)) : Int) > List.getD h0 (Int.toNat v5) 0)) = true then ((0 ≤ v4) ∧ (v4 < (↑(List.length x0) : Int)) ∧ ((0 ≤ v5) ∧ (v5 < (↑(List.length (List.getD x0 (Int.toNat v4) [])) : Int)) ∧ ((0 ≤ v5) ∧ (v5 < (↑(List.length h0) : Int)) ∧ ((InR IntKind.i64 (v5 + 1)) ∧ (R17_6 n (v5 + 1) (List.set h0 (Int.toNat v5) (↑(ByteArray.size (List.getD (List.getD x0 (Int.toNat v4) []) (Int.toNat v5) ByteArray.empty)) : Int)) (x0) (v4) ds))))) else ((InR IntKind.i64 (v5 + 1)) ∧ (R17_6 n (v5 + 1) (h0) (x0) (v4) ds)))))) else ((InR IntKind.i64 (v4 + 1)) ∧ (R17_3 n (v4 + 1) (h0) (x0) ds))))
def R17_12 : Nat → Int → List ByteArray → List (List ByteArray) → List Int → List Dyn → Prop
  | 0, _, _, _, _, _ => False
  | n + 1, v7, h1, x0, h0, ds => (if (Decidable.decide (v7 < (↑(List.length x0) : Int))) = true then (R17_16 n (ByteArray.mk #[]) (0) (x0) (v7) (h0) (h1) ds) else (ds = [Dyn.mk (Ty.sl Ty.str) h1]))
def R17_16 : Nat → ByteArray → Int → List (List ByteArray) → Int → List Int → List ByteArray → List Dyn → Prop
  | 0, _, _, _, _, _, _, _ => False
  | n + 1, v8, v9, x0, v7, h0, h1, ds => ((0 ≤ v7) ∧ (v7 < (↑(List.length x0) : Int)) ∧ (if (Decidable.decide (v9 < (↑(List.length (List.getD x0 (Int.toNat v7) [])) : Int))) = true then (if (Decidable.decide (v9 > 0)) = true then ((ByteArray.size v8 + 2 ≤ 9223372036854775807) ∧ ((0 ≤ v7) ∧ (v7 < (↑(List.length x0) : Int)) ∧ ((0 ≤ v9) ∧ (v9 < (↑(List.length (List.getD x0 (Int.toNat v7) [])) : Int)) ∧ ((ByteArray.size (v8 ++ ByteArray.mk #[32, 32]) + ByteArray.size (List.getD (List.getD x0 (Int.toNat v7) []) (Int.toNat v9) ByteArray.empty) ≤ 9223372036854775807) ∧ ((0 ≤ v7) ∧ (v7 < (↑(List.length x0) : Int)) ∧ ((0 ≤ v9) ∧ (v9 < (↑(List.length (List.getD x0 (Int.toNat v7) [])) : Int)) ∧ (R17_22 n (v8 ++ ByteArray.mk #[32, 32] ++ List.getD (List.getD x0 (Int.toNat v7) []) (Int.toNat v9) ByteArray.empty) ((↑(ByteArray.size (List.getD (List.getD x0 (Int.toNat v7) []) (Int.toNat v9) ByteArray.empty)) : Int)) (x0) (v7) (v9) (h0) (h1) ds))))))) else ((0 ≤ v7) ∧ (v7 < (↑(List.length x0) : Int)) ∧ ((0 ≤ v9) ∧ (v9 < (↑(List.length (List.getD x0 (Int.toNat v7) [])) : Int)) ∧ ((ByteArray.size v8 + ByteArray.size (List.getD (List.getD x0 (Int.toNat v7) []) (Int.toNat v9) ByteArray.empty) ≤ 9223372036854775807) ∧ ((0 ≤ v7) ∧ (v7 < (↑(List.length x0) : Int)) ∧ ((0 ≤ v9) ∧ (v9 < (↑(List.length (List.getD x0 (Int.toNat v7) [])) : Int)) ∧ (R17_22 n (v8 ++ List.getD (List.getD x0 (Int.toNat v7) []) (Int.toNat v9) ByteArray.empty) ((↑(ByteArray.size (List.getD (List.getD x0 (Int.toNat v7) []) (Int.toNat v9) ByteArray.empty)) : Int)) (x0) (v7) (v9) (h0) (h1) ds))))))) else (R17_25 n (x0) (v7) (v8) (h0) (h1) ds)))
def R17_22 : Nat → ByteArray → Int → List (List ByteArray) → Int → Int → List Int → List ByteArray → List Dyn → Prop
  | 0, _, _, _, _, _, _, _, _ => False
  | n + 1, v8, v10, x0, v7, v9, h0, h1, ds => ((0 ≤ v9) ∧ (v9 < (↑(List.length h0) : Int)) ∧ (if (Decidable.decide (v10 < List.getD h0 (Int.toNat v9) 0)) = true then ((ByteArray.size v8 + 1 ≤ 9223372036854775807) ∧ ((InR IntKind.i64 (v10 + 1)) ∧ (R17_22 n (v8 ++ ByteArray.mk #[32]) (v10 + 1) (x0) (v7) (v9) (h0) (h1) ds))) else ((InR IntKind.i64 (v9 + 1)) ∧ (R17_16 n (v8) (v9 + 1) (x0) (v7) (h0) (h1) ds))))
def R17_25 : Nat → List (List ByteArray) → Int → ByteArray → List Int → List ByteArray → List Dyn → Prop
  | 0, _, _, _, _, _, _ => False
  | n + 1, x0, v7, v8, h0, h1, ds => (if (Decidable.decide ((↑(ByteArray.size v8) : Int) > 0)) = true then ((InR IntKind.i64 ((↑(ByteArray.size v8) : Int) - 1)) ∧ ((0 ≤ (↑(ByteArray.size v8) : Int) - 1) ∧ ((↑(ByteArray.size v8) : Int) - 1 < (↑(ByteArray.size v8) : Int)) ∧ (if ((↑(UInt8.toNat (List.getD (Array.toList (ByteArray.data v8)) (Int.toNat ((↑(ByteArray.size v8) : Int) - 1)) 0)) : Int) == 32) = true then ((InR IntKind.i64 ((↑(ByteArray.size v8) : Int) - 1)) ∧ ((0 ≤ (↑(ByteArray.size v8) : Int) - 1) ∧ ((↑(ByteArray.size v8) : Int) - 1 ≤ (↑(ByteArray.size v8) : Int)) ∧ (R17_25 n (x0) (v7) (ByteArray.extract v8 0 (Int.toNat ((↑(ByteArray.size v8) : Int) - 1))) (h0) (h1) ds))) else (((List.length h1 + 1) * 16 ≤ 140737488355328) ∧ ((InR IntKind.i64 (v7 + 1)) ∧ (R17_12 n (v7 + 1) (h1 ++ [v8]) (x0) (h0) ds)))))) else (((List.length h1 + 1) * 16 ≤ 140737488355328) ∧ ((InR IntKind.i64 (v7 + 1)) ∧ (R17_12 n (v7 + 1) (h1 ++ [v8]) (x0) (h0) ds))))
end
theorem p17_0 (x0 : List (List ByteArray)) : Am.runN tab ext17 false 119 [] 2000 [] [] [0, 3, 4] [0] [] [.code b17] (entE 0 0 sig17 (x0, ())) (entL sig17 (x0, ())) = some (cutAt b17 3, E17_3 (0) ([0, 0, 0, 0, 0, 0, 0, 0, 0, 0, 0, 0]) (x0), L17_3 (0) ([0, 0, 0, 0, 0, 0, 0, 0, 0, 0, 0, 0]) (x0), [(0 : Int) ≤ (12 : Int), (12 : Int) ≤ (12 : Int), (96 : Int) ≤ (281474976710656 : Int)]) := by kernel_rfl
theorem p17_1 (v4 : Int) (h0 : List Int) (x0 : List (List ByteArray)) : Am.runN tab ext17 false 119 [] 2000 [] [] [0, 3, 4, 5] [0] [true] (cutAt b17 3) (E17_3 v4 h0 x0) (L17_3 v4 h0 x0) = some (cutAt b17 6, E17_6 (0) (h0) (x0) (v4), L17_6 (0) (h0) (x0) (v4), [Decidable.decide (v4 < (↑(List.length x0) : Int)) = Bool.true]) := by kernel_rfl
theorem p17_2 (v4 : Int) (h0 : List Int) (x0 : List (List ByteArray)) : Am.runN tab ext17 false 119 [] 2000 [] [] [0, 3, 6, 7] [0, 1] [false] (cutAt b17 3) (E17_3 v4 h0 x0) (L17_3 v4 h0 x0) = some (cutAt b17 12, E17_12 (0) ([]) (x0) (h0), L17_12 (0) ([]) (x0) (h0), [Decidable.decide (v4 < (↑(List.length x0) : Int)) = Bool.false]) := by kernel_rfl
theorem p17_3 (v5 : Int) (h0 : List Int) (x0 : List (List ByteArray)) (v4 : Int) : Am.runN tab ext17 false 119 [] 2000 [] [] [0, 3, 4, 5] [0] [true, true] (cutAt b17 6) (E17_6 v5 h0 x0 v4) (L17_6 v5 h0 x0 v4) = some (cutAt b17 6, E17_6 (v5 + 1) (List.set h0 (Int.toNat v5) (↑(ByteArray.size (List.getD (List.getD x0 (Int.toNat v4) []) (Int.toNat v5) ByteArray.empty)) : Int)) (x0) (v4), L17_6 (v5 + 1) (List.set h0 (Int.toNat v5) (↑(ByteArray.size (List.getD (List.getD x0 (Int.toNat v4) []) (Int.toNat v5) ByteArray.empty)) : Int)) (x0) (v4), [0 ≤ v4, v4 < (↑(List.length x0) : Int), Decidable.decide (v5 < (↑(List.length (List.getD x0 (Int.toNat v4) [])) : Int)) = Bool.true, 0 ≤ v4, v4 < (↑(List.length x0) : Int), 0 ≤ v5, v5 < (↑(List.length (List.getD x0 (Int.toNat v4) [])) : Int), 0 ≤ v5, v5 < (↑(List.length h0) : Int), Decidable.decide ((↑(ByteArray.size (List.getD (List.getD x0 (Int.toNat v4) []) (Int.toNat v5) ByteArray.empty)) : Int) > List.getD h0 (Int.toNat v5) 0) = Bool.true, 0 ≤ v4, v4 < (↑(List.length x0) : Int), 0 ≤ v5, v5 < (↑(List.length (List.getD x0 (Int.toNat v4) [])) : Int), 0 ≤ v5, v5 < (↑(List.length h0) : Int), InR IntKind.i64 (v5 + 1)]) := by kernel_rfl
theorem p17_4 (v5 : Int) (h0 : List Int) (x0 : List (List ByteArray)) (v4 : Int) : Am.runN tab ext17 false 119 [] 2000 [] [] [0, 3, 4, 5] [0] [true, false] (cutAt b17 6) (E17_6 v5 h0 x0 v4) (L17_6 v5 h0 x0 v4) = some (cutAt b17 6, E17_6 (v5 + 1) (h0) (x0) (v4), L17_6 (v5 + 1) (h0) (x0) (v4), [0 ≤ v4, v4 < (↑(List.length x0) : Int), Decidable.decide (v5 < (↑(List.length (List.getD x0 (Int.toNat v4) [])) : Int)) = Bool.true, 0 ≤ v4, v4 < (↑(List.length x0) : Int), 0 ≤ v5, v5 < (↑(List.length (List.getD x0 (Int.toNat v4) [])) : Int), 0 ≤ v5, v5 < (↑(List.length h0) : Int), Decidable.decide ((↑(ByteArray.size (List.getD (List.getD x0 (Int.toNat v4) []) (Int.toNat v5) ByteArray.empty)) : Int) > List.getD h0 (Int.toNat v5) 0) = Bool.false, InR IntKind.i64 (v5 + 1)]) := by kernel_rfl
theorem p17_5 (v5 : Int) (h0 : List Int) (x0 : List (List ByteArray)) (v4 : Int) : Am.runN tab ext17 false 119 [] 2000 [] [] [0, 3, 4] [0] [false] (cutAt b17 6) (E17_6 v5 h0 x0 v4) (L17_6 v5 h0 x0 v4) = some (cutAt b17 3, E17_3 (v4 + 1) (h0) (x0), L17_3 (v4 + 1) (h0) (x0), [0 ≤ v4, v4 < (↑(List.length x0) : Int), Decidable.decide (v5 < (↑(List.length (List.getD x0 (Int.toNat v4) [])) : Int)) = Bool.false, InR IntKind.i64 (v4 + 1)]) := by kernel_rfl
theorem p17_6 (v7 : Int) (h1 : List ByteArray) (x0 : List (List ByteArray)) (h0 : List Int) : Am.runN tab ext17 false 119 [] 2000 [] [] [0, 3, 6, 7, 8, 9] [0, 1] [true] (cutAt b17 12) (E17_12 v7 h1 x0 h0) (L17_12 v7 h1 x0 h0) = some (cutAt b17 16, E17_16 (ByteArray.mk #[]) (0) (x0) (v7) (h0) (h1), L17_16 (ByteArray.mk #[]) (0) (x0) (v7) (h0) (h1), [Decidable.decide (v7 < (↑(List.length x0) : Int)) = Bool.true]) := by kernel_rfl
theorem p17_7 (v7 : Int) (h1 : List ByteArray) (x0 : List (List ByteArray)) (h0 : List Int) : runF tab ext17 false 119 [] 2000 [] oks17 kds17 tys17 Tryz.f17.results [false] (cutAt b17 12) (E17_12 v7 h1 x0 h0) (L17_12 v7 h1 x0 h0) = some ([Dyn.mk (Ty.sl Ty.str) h1], [], [Decidable.decide (v7 < (↑(List.length x0) : Int)) = Bool.false]) := by kernel_rfl
theorem p17_8 (v8 : ByteArray) (v9 : Int) (x0 : List (List ByteArray)) (v7 : Int) (h0 : List Int) (h1 : List ByteArray) : Am.runN tab ext17 false 119 [] 2000 [] [] [0, 3, 6, 7, 8, 9, 10] [0, 1] [true, true] (cutAt b17 16) (E17_16 v8 v9 x0 v7 h0 h1) (L17_16 v8 v9 x0 v7 h0 h1) = some (cutAt b17 22, E17_22 (v8 ++ ByteArray.mk #[32, 32] ++ List.getD (List.getD x0 (Int.toNat v7) []) (Int.toNat v9) ByteArray.empty) ((↑(ByteArray.size (List.getD (List.getD x0 (Int.toNat v7) []) (Int.toNat v9) ByteArray.empty)) : Int)) (x0) (v7) (v9) (h0) (h1), L17_22 (v8 ++ ByteArray.mk #[32, 32] ++ List.getD (List.getD x0 (Int.toNat v7) []) (Int.toNat v9) ByteArray.empty) ((↑(ByteArray.size (List.getD (List.getD x0 (Int.toNat v7) []) (Int.toNat v9) ByteArray.empty)) : Int)) (x0) (v7) (v9) (h0) (h1), [0 ≤ v7, v7 < (↑(List.length x0) : Int), Decidable.decide (v9 < (↑(List.length (List.getD x0 (Int.toNat v7) [])) : Int)) = Bool.true, Decidable.decide (v9 > 0) = Bool.true, ByteArray.size v8 + 2 ≤ 9223372036854775807, 0 ≤ v7, v7 < (↑(List.length x0) : Int), 0 ≤ v9, v9 < (↑(List.length (List.getD x0 (Int.toNat v7) [])) : Int), ByteArray.size (v8 ++ ByteArray.mk #[32, 32]) + ByteArray.size (List.getD (List.getD x0 (Int.toNat v7) []) (Int.toNat v9) ByteArray.empty) ≤ 9223372036854775807, 0 ≤ v7, v7 < (↑(List.length x0) : Int), 0 ≤ v9, v9 < (↑(List.length (List.getD x0 (Int.toNat v7) [])) : Int)]) := by kernel_rfl
theorem p17_9 (v8 : ByteArray) (v9 : Int) (x0 : List (List ByteArray)) (v7 : Int) (h0 : List Int) (h1 : List ByteArray) : Am.runN tab ext17 false 119 [] 2000 [] [] [0, 3, 6, 7, 8, 9, 10] [0, 1] [true, false] (cutAt b17 16) (E17_16 v8 v9 x0 v7 h0 h1) (L17_16 v8 v9 x0 v7 h0 h1) = some (cutAt b17 22, E17_22 (v8 ++ List.getD (List.getD x0 (Int.toNat v7) []) (Int.toNat v9) ByteArray.empty) ((↑(ByteArray.size (List.getD (List.getD x0 (Int.toNat v7) []) (Int.toNat v9) ByteArray.empty)) : Int)) (x0) (v7) (v9) (h0) (h1), L17_22 (v8 ++ List.getD (List.getD x0 (Int.toNat v7) []) (Int.toNat v9) ByteArray.empty) ((↑(ByteArray.size (List.getD (List.getD x0 (Int.toNat v7) []) (Int.toNat v9) ByteArray.empty)) : Int)) (x0) (v7) (v9) (h0) (h1), [0 ≤ v7, v7 < (↑(List.length x0) : Int), Decidable.decide (v9 < (↑(List.length (List.getD x0 (Int.toNat v7) [])) : Int)) = Bool.true, Decidable.decide (v9 > 0) = Bool.false, 0 ≤ v7, v7 < (↑(List.length x0) : Int), 0 ≤ v9, v9 < (↑(List.length (List.getD x0 (Int.toNat v7) [])) : Int), ByteArray.size v8 + ByteArray.size (List.getD (List.getD x0 (Int.toNat v7) []) (Int.toNat v9) ByteArray.empty) ≤ 9223372036854775807, 0 ≤ v7, v7 < (↑(List.length x0) : Int), 0 ≤ v9, v9 < (↑(List.length (List.getD x0 (Int.toNat v7) [])) : Int)]) := by kernel_rfl
theorem p17_10 (v8 : ByteArray) (v9 : Int) (x0 : List (List ByteArray)) (v7 : Int) (h0 : List Int) (h1 : List ByteArray) : Am.runN tab ext17 false 119 [] 2000 [] [] [0, 3, 6, 7, 8] [0, 1] [false] (cutAt b17 16) (E17_16 v8 v9 x0 v7 h0 h1) (L17_16 v8 v9 x0 v7 h0 h1) = some (cutAt b17 25, E17_25 (x0) (v7) (v8) (h0) (h1), L17_25 (x0) (v7) (v8) (h0) (h1), [0 ≤ v7, v7 < (↑(List.length x0) : Int), Decidable.decide (v9 < (↑(List.length (List.getD x0 (Int.toNat v7) [])) : Int)) = Bool.false]) := by kernel_rfl
theorem p17_11 (v8 : ByteArray) (v10 : Int) (x0 : List (List ByteArray)) (v7 : Int) (v9 : Int) (h0 : List Int) (h1 : List ByteArray) : Am.runN tab ext17 false 119 [] 2000 [] [] [0, 3, 6, 7, 8, 9, 10] [0, 1] [true] (cutAt b17 22) (E17_22 v8 v10 x0 v7 v9 h0 h1) (L17_22 v8 v10 x0 v7 v9 h0 h1) = some (cutAt b17 22, E17_22 (v8 ++ ByteArray.mk #[32]) (v10 + 1) (x0) (v7) (v9) (h0) (h1), L17_22 (v8 ++ ByteArray.mk #[32]) (v10 + 1) (x0) (v7) (v9) (h0) (h1), [0 ≤ v9, v9 < (↑(List.length h0) : Int), Decidable.decide (v10 < List.getD h0 (Int.toNat v9) 0) = Bool.true, ByteArray.size v8 + 1 ≤ 9223372036854775807, InR IntKind.i64 (v10 + 1)]) := by kernel_rfl
theorem p17_12 (v8 : ByteArray) (v10 : Int) (x0 : List (List ByteArray)) (v7 : Int) (v9 : Int) (h0 : List Int) (h1 : List ByteArray) : Am.runN tab ext17 false 119 [] 2000 [] [] [0, 3, 6, 7, 8, 9] [0, 1] [false] (cutAt b17 22) (E17_22 v8 v10 x0 v7 v9 h0 h1) (L17_22 v8 v10 x0 v7 v9 h0 h1) = some (cutAt b17 16, E17_16 (v8) (v9 + 1) (x0) (v7) (h0) (h1), L17_16 (v8) (v9 + 1) (x0) (v7) (h0) (h1), [0 ≤ v9, v9 < (↑(List.length h0) : Int), Decidable.decide (v10 < List.getD h0 (Int.toNat v9) 0) = Bool.false, InR IntKind.i64 (v9 + 1)]) := by kernel_rfl
theorem p17_13 (x0 : List (List ByteArray)) (v7 : Int) (v8 : ByteArray) (h0 : List Int) (h1 : List ByteArray) : Am.runN tab ext17 false 119 [] 2000 [] [] [0, 3, 6, 7, 8] [0, 1] [true, true] (cutAt b17 25) (E17_25 x0 v7 v8 h0 h1) (L17_25 x0 v7 v8 h0 h1) = some (cutAt b17 25, E17_25 (x0) (v7) (ByteArray.extract v8 0 (Int.toNat ((↑(ByteArray.size v8) : Int) - 1))) (h0) (h1), L17_25 (x0) (v7) (ByteArray.extract v8 0 (Int.toNat ((↑(ByteArray.size v8) : Int) - 1))) (h0) (h1), [Decidable.decide ((↑(ByteArray.size v8) : Int) > 0) = Bool.true, InR IntKind.i64 ((↑(ByteArray.size v8) : Int) - 1), 0 ≤ (↑(ByteArray.size v8) : Int) - 1, (↑(ByteArray.size v8) : Int) - 1 < (↑(ByteArray.size v8) : Int), ((↑(UInt8.toNat (List.getD (Array.toList (ByteArray.data v8)) (Int.toNat ((↑(ByteArray.size v8) : Int) - 1)) 0)) : Int) == 32) = Bool.true, InR IntKind.i64 ((↑(ByteArray.size v8) : Int) - 1), 0 ≤ (↑(ByteArray.size v8) : Int) - 1, (↑(ByteArray.size v8) : Int) - 1 ≤ (↑(ByteArray.size v8) : Int)]) := by kernel_rfl
theorem p17_14 (x0 : List (List ByteArray)) (v7 : Int) (v8 : ByteArray) (h0 : List Int) (h1 : List ByteArray) : Am.runN tab ext17 false 119 [] 2000 [] [] [0, 3, 6, 7] [0, 1] [true, false] (cutAt b17 25) (E17_25 x0 v7 v8 h0 h1) (L17_25 x0 v7 v8 h0 h1) = some (cutAt b17 12, E17_12 (v7 + 1) (h1 ++ [v8]) (x0) (h0), L17_12 (v7 + 1) (h1 ++ [v8]) (x0) (h0), [Decidable.decide ((↑(ByteArray.size v8) : Int) > 0) = Bool.true, InR IntKind.i64 ((↑(ByteArray.size v8) : Int) - 1), 0 ≤ (↑(ByteArray.size v8) : Int) - 1, (↑(ByteArray.size v8) : Int) - 1 < (↑(ByteArray.size v8) : Int), ((↑(UInt8.toNat (List.getD (Array.toList (ByteArray.data v8)) (Int.toNat ((↑(ByteArray.size v8) : Int) - 1)) 0)) : Int) == 32) = Bool.false, (List.length h1 + 1) * 16 ≤ 140737488355328, InR IntKind.i64 (v7 + 1)]) := by kernel_rfl
theorem p17_15 (x0 : List (List ByteArray)) (v7 : Int) (v8 : ByteArray) (h0 : List Int) (h1 : List ByteArray) : Am.runN tab ext17 false 119 [] 2000 [] [] [0, 3, 6, 7] [0, 1] [false, false] (cutAt b17 25) (E17_25 x0 v7 v8 h0 h1) (L17_25 x0 v7 v8 h0 h1) = some (cutAt b17 12, E17_12 (v7 + 1) (h1 ++ [v8]) (x0) (h0), L17_12 (v7 + 1) (h1 ++ [v8]) (x0) (h0), [Decidable.decide ((↑(ByteArray.size v8) : Int) > 0) = Bool.false, Bool.false = Bool.false, (List.length h1 + 1) * 16 ≤ 140737488355328, InR IntKind.i64 (v7 + 1)]) := by kernel_rfl
theorem snd17 : ∀ n, (∀ (x0 : List (List ByteArray)) ds, R17 n x0 ds → ∀ K q, AtV Tryz.prog 17 (PostR kds17 oks17 ds [] [] q K) 119 K q [] [.code b17] (entE 0 0 sig17 (x0, ())) (entL sig17 (x0, ()))) ∧ (∀ (v4 : Int) (h0 : List Int) (x0 : List (List ByteArray)) ds, R17_3 n v4 h0 x0 ds → ∀ K q, AtV Tryz.prog 17 (PostR kds17 oks17 ds [] [] q K) 119 K q [] (cutAt b17 3) (E17_3 v4 h0 x0) (L17_3 v4 h0 x0)) ∧ (∀ (v5 : Int) (h0 : List Int) (x0 : List (List ByteArray)) (v4 : Int) ds, R17_6 n v5 h0 x0 v4 ds → ∀ K q, AtV Tryz.prog 17 (PostR kds17 oks17 ds [] [] q K) 119 K q [] (cutAt b17 6) (E17_6 v5 h0 x0 v4) (L17_6 v5 h0 x0 v4)) ∧ (∀ (v7 : Int) (h1 : List ByteArray) (x0 : List (List ByteArray)) (h0 : List Int) ds, R17_12 n v7 h1 x0 h0 ds → ∀ K q, AtV Tryz.prog 17 (PostR kds17 oks17 ds [] [] q K) 119 K q [] (cutAt b17 12) (E17_12 v7 h1 x0 h0) (L17_12 v7 h1 x0 h0)) ∧ (∀ (v8 : ByteArray) (v9 : Int) (x0 : List (List ByteArray)) (v7 : Int) (h0 : List Int) (h1 : List ByteArray) ds, R17_16 n v8 v9 x0 v7 h0 h1 ds → ∀ K q, AtV Tryz.prog 17 (PostR kds17 oks17 ds [] [] q K) 119 K q [] (cutAt b17 16) (E17_16 v8 v9 x0 v7 h0 h1) (L17_16 v8 v9 x0 v7 h0 h1)) ∧ (∀ (v8 : ByteArray) (v10 : Int) (x0 : List (List ByteArray)) (v7 : Int) (v9 : Int) (h0 : List Int) (h1 : List ByteArray) ds, R17_22 n v8 v10 x0 v7 v9 h0 h1 ds → ∀ K q, AtV Tryz.prog 17 (PostR kds17 oks17 ds [] [] q K) 119 K q [] (cutAt b17 22) (E17_22 v8 v10 x0 v7 v9 h0 h1) (L17_22 v8 v10 x0 v7 v9 h0 h1)) ∧ (∀ (x0 : List (List ByteArray)) (v7 : Int) (v8 : ByteArray) (h0 : List Int) (h1 : List ByteArray) ds, R17_25 n x0 v7 v8 h0 h1 ds → ∀ K q, AtV Tryz.prog 17 (PostR kds17 oks17 ds [] [] q K) 119 K q [] (cutAt b17 25) (E17_25 x0 v7 v8 h0 h1) (L17_25 x0 v7 v8 h0 h1)) := by
  intro n
  induction n with
  | zero => exact ⟨fun _ _ h => by simp only [R17] at h, fun _ _ _ _ h => by simp only [R17_3] at h, fun _ _ _ _ _ h => by simp only [R17_6] at h, fun _ _ _ _ _ h => by simp only [R17_12] at h, fun _ _ _ _ _ _ _ h => by simp only [R17_16] at h, fun _ _ _ _ _ _ _ _ h => by simp only [R17_22] at h, fun _ _ _ _ _ _ h => by simp only [R17_25] at h⟩
  | succ n ih =>
  obtain ⟨ih, ih3, ih6, ih12, ih16, ih22, ih25⟩ := ih
  refine ⟨?_, ?_, ?_, ?_, ?_, ?_, ?_⟩
  · intro x0 ds h K q
    rw [R17] at h
    exact AtV.runN tabOk ext17Ok mixed (p17_0 x0) ⟨(by decide), (by decide), (by decide), trivial⟩ (ih3 _ _ _ _ h K q)

  · intro v4 h0 x0 ds h K q
    rw [R17_3] at h
    by_cases b0 : (Decidable.decide (v4 < (↑(List.length x0) : Int))) = true
    · rw [if_pos b0] at h
      exact AtV.runN tabOk ext17Ok mixed (p17_1 v4 h0 x0) ⟨b0, trivial⟩ (ih6 _ _ _ _ _ h K q)
    · rw [if_neg b0] at h
      replace b0 := Bool.eq_false_iff.2 b0
      exact AtV.runN tabOk ext17Ok mixed (p17_2 v4 h0 x0) ⟨b0, trivial⟩ (ih12 _ _ _ _ _ h K q)

  · intro v5 h0 x0 v4 ds h K q
    rw [R17_6] at h
    obtain ⟨s0, s1, h⟩ := h
    by_cases b0 : (Decidable.decide (v5 < (↑(List.length (List.getD x0 (Int.toNat v4) [])) : Int))) = true
    · rw [if_pos b0] at h
      obtain ⟨s2, s3, h⟩ := h
      obtain ⟨s4, s5, h⟩ := h
      obtain ⟨s6, s7, h⟩ := h
      by_cases b1 : (Decidable.decide ((↑(ByteArray.size (List.getD (List.getD x0 (Int.toNat v4) []) (Int.toNat v5) ByteArray.empty)) : Int) > List.getD h0 (Int.toNat v5) 0)) = true
      · rw [if_pos b1] at h
        obtain ⟨s8, s9, h⟩ := h
        obtain ⟨s10, s11, h⟩ := h
        obtain ⟨s12, s13, h⟩ := h
        obtain ⟨s14, h⟩ := h
        exact AtV.runN tabOk ext17Ok mixed (p17_3 v5 h0 x0 v4) ⟨s0, s1, b0, s2, s3, s4, s5, s6, s7, b1, s8, s9, s10, s11, s12, s13, s14, trivial⟩ (ih6 _ _ _ _ _ h K q)
      · rw [if_neg b1] at h
        replace b1 := Bool.eq_false_iff.2 b1
        obtain ⟨s8, h⟩ := h
        exact AtV.runN tabOk ext17Ok mixed (p17_4 v5 h0 x0 v4) ⟨s0, s1, b0, s2, s3, s4, s5, s6, s7, b1, s8, trivial⟩ (ih6 _ _ _ _ _ h K q)
    · rw [if_neg b0] at h
      replace b0 := Bool.eq_false_iff.2 b0
      obtain ⟨s2, h⟩ := h
      exact AtV.runN tabOk ext17Ok mixed (p17_5 v5 h0 x0 v4) ⟨s0, s1, b0, s2, trivial⟩ (ih3 _ _ _ _ h K q)

  · intro v7 h1 x0 h0 ds h K q
    rw [R17_12] at h
    by_cases b0 : (Decidable.decide (v7 < (↑(List.length x0) : Int))) = true
    · rw [if_pos b0] at h
      exact AtV.runN tabOk ext17Ok mixed (p17_6 v7 h1 x0 h0) ⟨b0, trivial⟩ (ih16 _ _ _ _ _ _ _ h K q)
    · rw [if_neg b0] at h
      replace b0 := Bool.eq_false_iff.2 b0
      subst h
      exact AtV.fin Tryz.func17 tabOk ext17Ok mixed (p17_7 v7 h1 x0 h0) ⟨b0, trivial⟩

  · intro v8 v9 x0 v7 h0 h1 ds h K q
    rw [R17_16] at h
    obtain ⟨s0, s1, h⟩ := h
    by_cases b0 : (Decidable.decide (v9 < (↑(List.length (List.getD x0 (Int.toNat v7) [])) : Int))) = true
    · rw [if_pos b0] at h
      by_cases b1 : (Decidable.decide (v9 > 0)) = true
      · rw [if_pos b1] at h
        obtain ⟨s2, h⟩ := h
        obtain ⟨s3, s4, h⟩ := h
        obtain ⟨s5, s6, h⟩ := h
        obtain ⟨s7, h⟩ := h
        obtain ⟨s8, s9, h⟩ := h
        obtain ⟨s10, s11, h⟩ := h
        exact AtV.runN tabOk ext17Ok mixed (p17_8 v8 v9 x0 v7 h0 h1) ⟨s0, s1, b0, b1, s2, s3, s4, s5, s6, s7, s8, s9, s10, s11, trivial⟩ (ih22 _ _ _ _ _ _ _ _ h K q)
      · rw [if_neg b1] at h
        replace b1 := Bool.eq_false_iff.2 b1
        obtain ⟨s2, s3, h⟩ := h
        obtain ⟨s4, s5, h⟩ := h
        obtain ⟨s6, h⟩ := h
        obtain ⟨s7, s8, h⟩ := h
        obtain ⟨s9, s10, h⟩ := h
        exact AtV.runN tabOk ext17Ok mixed (p17_9 v8 v9 x0 v7 h0 h1) ⟨s0, s1, b0, b1, s2, s3, s4, s5, s6, s7, s8, s9, s10, trivial⟩ (ih22 _ _ _ _ _ _ _ _ h K q)
    · rw [if_neg b0] at h
      replace b0 := Bool.eq_false_iff.2 b0
      exact AtV.runN tabOk ext17Ok mixed (p17_10 v8 v9 x0 v7 h0 h1) ⟨s0, s1, b0, trivial⟩ (ih25 _ _ _ _ _ _ h K q)

  · intro v8 v10 x0 v7 v9 h0 h1 ds h K q
    rw [R17_22] at h
    obtain ⟨s0, s1, h⟩ := h
    by_cases b0 : (Decidable.decide (v10 < List.getD h0 (Int.toNat v9) 0)) = true
    · rw [if_pos b0] at h
      obtain ⟨s2, h⟩ := h
      obtain ⟨s3, h⟩ := h
      exact AtV.runN tabOk ext17Ok mixed (p17_11 v8 v10 x0 v7 v9 h0 h1) ⟨s0, s1, b0, s2, s3, trivial⟩ (ih22 _ _ _ _ _ _ _ _ h K q)
    · rw [if_neg b0] at h
      replace b0 := Bool.eq_false_iff.2 b0
      obtain ⟨s2, h⟩ := h
      exact AtV.runN tabOk ext17Ok mixed (p17_12 v8 v10 x0 v7 v9 h0 h1) ⟨s0, s1, b0, s2, trivial⟩ (ih16 _ _ _ _ _ _ _ h K q)

  · intro x0 v7 v8 h0 h1 ds h K q
    rw [R17_25] at h
    by_cases b0 : (Decidable.decide ((↑(ByteArray.size v8) : Int) > 0)) = true
    · rw [if_pos b0] at h
      obtain ⟨s0, h⟩ := h
      obtain ⟨s1, s2, h⟩ := h
      by_cases b1 : ((↑(UInt8.toNat (List.getD (Array.toList (ByteArray.data v8)) (Int.toNat ((↑(ByteArray.size v8) : Int) - 1)) 0)) : Int) == 32) = true
      · rw [if_pos b1] at h
        obtain ⟨s3, h⟩ := h
        obtain ⟨s4, s5, h⟩ := h
        exact AtV.runN tabOk ext17Ok mixed (p17_13 x0 v7 v8 h0 h1) ⟨b0, s0, s1, s2, b1, s3, s4, s5, trivial⟩ (ih25 _ _ _ _ _ _ h K q)
      · rw [if_neg b1] at h
        replace b1 := Bool.eq_false_iff.2 b1
        obtain ⟨s3, h⟩ := h
        obtain ⟨s4, h⟩ := h
        exact AtV.runN tabOk ext17Ok mixed (p17_14 x0 v7 v8 h0 h1) ⟨b0, s0, s1, s2, b1, s3, s4, trivial⟩ (ih12 _ _ _ _ _ h K q)
    · rw [if_neg b0] at h
      replace b0 := Bool.eq_false_iff.2 b0
      obtain ⟨s0, h⟩ := h
      obtain ⟨s1, h⟩ := h
      exact AtV.runN tabOk ext17Ok mixed (p17_15 x0 v7 v8 h0 h1) ⟨b0, rfl, s0, s1, trivial⟩ (ih12 _ _ _ _ _ h K q)



def row17 : Nat → List ByteArray → List Int → List Int
  | _, [], h => h
  | k, c :: r, h => row17 (k + 1) r (if ((c.size : Nat) : Int) > h.getD k 0 then h.set k (c.size : Nat) else h)

def spc17 (n : Nat) : List UInt8 := List.replicate n 32
def ln17 : Nat → List ByteArray → List Int → List UInt8 → List UInt8
  | _, [], _, v => v
  | k, c :: r, h, v => ln17 (k + 1) r h ((v ++ (if k > 0 then [32, 32] else []) ++ c.data.toList) ++ spc17 (h.getD k 0 - (c.size : Nat)).toNat)

def line17 (h : List Int) (r : List ByteArray) : ByteArray := ⟨(Lib.trimRightB (ln17 0 r h []) 32).toArray⟩
def wide17 (x0 : List (List ByteArray)) : List Int := x0.foldl (fun h r => row17 0 r h) [0, 0, 0, 0, 0, 0, 0, 0, 0, 0, 0, 0]
def g17_0 (x0 : List (List ByteArray)) : List ByteArray := x0.map (line17 (wide17 x0))
def P17 (x0 : List (List ByteArray)) : Prop := x0.length ≤ 1000000 ∧ ∀ r ∈ x0, r.length ≤ 12 ∧ ∀ c ∈ r, c.size ≤ 4000000

def Wid17 (h : List Int) : Prop := h.length = 12 ∧ ∀ c ∈ h, 0 ≤ c ∧ c ≤ 4000000

theorem wget17 {h : List Int} (hw : Wid17 h) (k : Nat) : 0 ≤ h.getD k 0 ∧ h.getD k 0 ≤ 4000000 := by
  by_cases hk : k < h.length
  · exact hw.2 _ (mem_getD h k 0 hk)
  · rw [List.getD_eq_getElem?_getD, List.getElem?_eq_none (by omega)]
    exact ⟨Int.le_refl _, by decide⟩

theorem wset17 {h : List Int} (hw : Wid17 h) (k : Nat) {c : ByteArray} (hc : c.size ≤ 4000000) : Wid17 (if ((c.size : Nat) : Int) > h.getD k 0 then h.set k (c.size : Nat) else h) := by
  split
  · refine ⟨by rw [List.length_set]; exact hw.1, fun y hy => ?_⟩
    rcases List.mem_or_eq_of_mem_set hy with hy | rfl
    · exact hw.2 y hy
    · omega
  · exact hw

theorem wrow17 : ∀ (r : List ByteArray) (k : Nat) (h : List Int), Wid17 h → (∀ c ∈ r, c.size ≤ 4000000) → Wid17 (row17 k r h)
  | [], _, _, hw, _ => hw
  | c :: r, k, h, hw, hc => wrow17 r (k + 1) _ (wset17 hw k (hc c (List.mem_cons_self ..))) (fun d hd => hc d (List.mem_cons_of_mem _ hd))

theorem tr17 (v : ByteArray) (h : 0 < v.size) (hl : v.data.toList.getD (v.size - 1) 0 = 32) : Lib.trimRightB (ByteArray.extract v 0 (v.size - 1)).data.toList 32 = Lib.trimRightB v.data.toList 32 := by
  obtain ⟨⟨l⟩⟩ := v
  have hs : (ByteArray.mk ⟨l⟩).size = l.length := rfl
  rw [hs] at *
  have e : (ByteArray.extract ⟨⟨l⟩⟩ 0 (l.length - 1)).data.toList = l.dropLast := by
    rw [ByteArray.data_extract]
    simp [List.dropLast_eq_take]
  rw [e]
  have h' : 0 < l.length := h
  have hne : l ≠ [] := fun hn => by rw [hn] at h; exact absurd h (by decide)
  have hd : l = l.dropLast ++ [32] := by
    have h1 := List.dropLast_concat_getLast hne
    have h2 : l.getLast hne = 32 := by
      rw [List.getLast_eq_getElem]
      have : l.getD (l.length - 1) 0 = 32 := hl
      rwa [getD_lt l _ 0 (by omega)] at this
    rw [h2] at h1
    exact h1.symm
  show Lib.trimRightB l.dropLast 32 = Lib.trimRightB l 32
  conv => rhs; rw [hd]
  unfold Lib.trimRightB
  rw [List.reverse_append, List.reverse_singleton, List.singleton_append, List.dropWhile_cons, if_pos (by decide)]

theorem trn17 (v : ByteArray) (hl : 0 < v.size → v.data.toList.getD (v.size - 1) 0 ≠ 32) : (⟨(Lib.trimRightB v.data.toList 32).toArray⟩ : ByteArray) = v := by
  obtain ⟨⟨l⟩⟩ := v
  have hs : (ByteArray.mk ⟨l⟩).size = l.length := rfl
  rw [hs] at hl
  congr 2
  show Lib.trimRightB l 32 = l
  rcases List.eq_nil_or_concat l with rfl | ⟨a, b, hab⟩
  · rfl
  · rw [List.concat_eq_append] at hab
    subst hab
    have hb : b ≠ 32 := by
      have := hl (by simp)
      have e : (a ++ [b]).length - 1 = a.length := by simp
      have e2 : List.getD (a ++ [b]) ((a ++ [b]).length - 1) 0 = b := by rw [e]; simp [List.getD_eq_getElem?_getD]
      exact fun h => this (e2.trans h)
    unfold Lib.trimRightB
    simp [List.reverse_append, List.dropWhile_cons, hb]

section
variable {x0 : List (List ByteArray)} {ds : List Dyn}

theorem l2517 {v7 : Nat} {h0 : List Int} {h1 : List ByteArray} (hv : v7 < 1000000) (hl : h1.length ≤ 1000000) : ∀ (m : Nat) (v8 : ByteArray), v8.size = m → v8.size ≤ 100000000 → (∃ n, R17_12 n ((v7 : Int) + 1) (h1 ++ [⟨(Lib.trimRightB v8.data.toList 32).toArray⟩]) x0 h0 ds) → ∃ n, R17_25 n x0 (v7 : Int) v8 h0 h1 ds := by
  intro m
  induction m with
  | zero =>
    intro v8 hm _ ⟨n, hn⟩
    refine ⟨n + 1, ?_⟩
    rw [R17_25, if_neg (by simp only [decide_eq_true_eq]; omega)]
    rw [trn17 v8 (fun h => by omega)] at hn
    exact ⟨by omega, by rw [i64_iff]; omega, hn⟩
  | succ m ih =>
    intro v8 hm hb ⟨n, hn⟩
    have e1 : (((v8.size : Nat) : Int) - 1).toNat = v8.size - 1 := by omega
    by_cases hc : v8.data.toList.getD (v8.size - 1) 0 = 32
    · obtain ⟨n', hn'⟩ := ih (ByteArray.extract v8 0 (v8.size - 1)) (by rw [ByteArray.size_extract]; omega) (by rw [ByteArray.size_extract]; omega) ⟨n, by rw [tr17 v8 (by omega) hc]; exact hn⟩
      refine ⟨n' + 1, ?_⟩
      rw [R17_25, if_pos (by simp only [decide_eq_true_eq]; omega)]
      simp only [e1]
      refine ⟨by rw [i64_iff]; omega, by omega, by omega, ?_⟩
      rw [if_pos (by rw [hc]; rfl)]
      exact ⟨by rw [i64_iff]; omega, by omega, by omega, hn'⟩
    · refine ⟨n + 1, ?_⟩
      rw [R17_25, if_pos (by simp only [decide_eq_true_eq]; omega)]
      simp only [e1]
      refine ⟨by rw [i64_iff]; omega, by omega, by omega, ?_⟩
      rw [if_neg (fun h => hc (by
        have h : ((v8.data.toList.getD (v8.size - 1) 0).toNat : Int) = 32 := by simpa using h
        exact UInt8.toNat_inj.1 (by show _ = 32; omega)))]
      rw [trn17 v8 (fun _ => hc)] at hn
      exact ⟨by omega, by rw [i64_iff]; omega, hn⟩

theorem l2217 {v7 v9 : Nat} {h0 : List Int} {h1 : List ByteArray} (hw : Wid17 h0) (h9 : v9 < 12) : ∀ (k : Nat) (v8 : ByteArray) (v10 : Int), k = (h0.getD v9 0 - v10).toNat → 0 ≤ v10 → v8.size + k ≤ 100000000 → v10 ≤ 4000000 →
    (∃ n, R17_16 n ⟨(v8.data.toList ++ spc17 k).toArray⟩ ((v9 : Int) + 1) x0 (v7 : Int) h0 h1 ds) → ∃ n, R17_22 n v8 v10 x0 (v7 : Int) (v9 : Int) h0 h1 ds := by
  have hg := wget17 hw v9
  intro k
  induction k with
  | zero =>
    intro v8 v10 hk h10 hs hv ⟨n, hn⟩
    refine ⟨n + 1, ?_⟩
    have e : (⟨(v8.data.toList ++ spc17 0).toArray⟩ : ByteArray) = v8 := by simp [spc17]
    rw [e] at hn
    rw [R17_22]
    simp only [Int.toNat_natCast]
    refine ⟨by omega, by rw [hw.1]; omega, ?_⟩
    rw [if_neg (by simp only [decide_eq_true_eq]; omega)]
    exact ⟨by rw [i64_iff]; omega, hn⟩
  | succ k ih =>
    intro v8 v10 hk h10 hs hv ⟨n, hn⟩
    have s1 : (ByteArray.mk #[32]).size = 1 := rfl
    have e : (⟨((v8 ++ ByteArray.mk #[32]).data.toList ++ spc17 k).toArray⟩ : ByteArray) = ⟨(v8.data.toList ++ spc17 (k + 1)).toArray⟩ := by
      congr 2
      rw [ByteArray.data_append]
      simp [spc17, List.replicate_succ]
    obtain ⟨n', hn'⟩ := ih (v8 ++ ByteArray.mk #[32]) (v10 + 1) (by omega) (by omega) (by rw [ByteArray.size_append, s1]; omega) (by omega) ⟨n, by rw [e]; exact hn⟩
    refine ⟨n' + 1, ?_⟩
    rw [R17_22]
    simp only [Int.toNat_natCast]
    refine ⟨by omega, by rw [hw.1]; omega, ?_⟩
    rw [if_pos (by simp only [decide_eq_true_eq]; omega)]
    exact ⟨by omega, by rw [i64_iff]; omega, hn'⟩

theorem l1617 {v7 : Nat} {h0 : List Int} {h1 : List ByteArray} (hw : Wid17 h0) (h7 : v7 < x0.length) (hr : (x0.getD v7 []).length ≤ 12) (hc : ∀ c ∈ x0.getD v7 [], c.size ≤ 4000000) (hv : v7 < 1000000) (hl : h1.length ≤ 1000000) :
    ∀ (k v9 : Nat) (v8 : ByteArray), v9 + k = (x0.getD v7 []).length → v8.size ≤ v9 * 4000002 → (∃ n, R17_12 n ((v7 : Int) + 1) (h1 ++ [⟨(Lib.trimRightB (ln17 v9 ((x0.getD v7 []).drop v9) h0 v8.data.toList) 32).toArray⟩]) x0 h0 ds) → ∃ n, R17_16 n v8 (v9 : Int) x0 (v7 : Int) h0 h1 ds := by
  intro k
  induction k with
  | zero =>
    intro v9 v8 hk hs hn
    rw [drop_end _ v9 (by omega)] at hn
    obtain ⟨n, hn⟩ := l2517 (v8 := v8) hv hl _ rfl (by omega) hn
    refine ⟨n + 1, ?_⟩
    rw [R17_16]
    simp only [Int.toNat_natCast]
    refine ⟨by omega, by omega, ?_⟩
    rw [if_neg (by simp only [decide_eq_true_eq]; omega)]
    exact hn
  | succ k ih =>
    intro v9 v8 hk hs hn
    have h9 : v9 < (x0.getD v7 []).length := by omega
    have hcell := hc _ (mem_getD (x0.getD v7 []) v9 ByteArray.empty h9)
    have hg := wget17 hw v9
    have s2 : (ByteArray.mk #[32, 32]).size = 2 := rfl
    have z : ∀ l : List UInt8, (ByteArray.mk l.toArray).size = l.length := fun l => List.size_toArray
    rw [drop_get _ v9 ByteArray.empty h9] at hn
    simp only [ln17] at hn
    generalize hcl : (x0.getD v7 []).getD v9 ByteArray.empty = c at *
    have hcs : c.data.toList.length = c.size := rfl
    have hv8 : v8.data.toList.length = v8.size := rfl
    by_cases h0' : v9 > 0
    · rw [if_pos h0'] at hn
      have e : (⟨((v8 ++ ByteArray.mk #[32, 32] ++ c).data.toList ++ spc17 (h0.getD v9 0 - (c.size : Nat)).toNat).toArray⟩ : ByteArray).data.toList = (v8.data.toList ++ [32, 32] ++ c.data.toList) ++ spc17 (h0.getD v9 0 - (c.size : Nat)).toNat := by
        simp [ByteArray.data_append]
      obtain ⟨n, hn⟩ := l2217 (x0 := x0) (ds := ds) (v7 := v7) (h1 := h1) hw (by omega) _ (v8 ++ ByteArray.mk #[32, 32] ++ c) ((c.size : Nat) : Int) rfl (by omega) (by rw [ByteArray.size_append, ByteArray.size_append, s2]; omega) (by omega) (ih (v9 + 1) _ (by omega) (by rw [z]; simp only [List.length_append, spc17, List.length_replicate, ByteArray.data_append, Array.toList_append, hcs, hv8]; have : ([32, 32] : List UInt8).length = 2 := rfl; show _ + _ + _ + _ ≤ _; simp only [List.length_cons, List.length_nil]; omega) (by rw [e]; exact hn))
      refine ⟨n + 1, ?_⟩
      rw [R17_16]
      simp only [Int.toNat_natCast, hcl]
      refine ⟨by omega, by omega, ?_⟩
      rw [if_pos (by simp only [decide_eq_true_eq]; omega), if_pos (by simp only [decide_eq_true_eq]; omega)]
      exact ⟨by omega, by omega, by omega, by omega, by omega, by rw [ByteArray.size_append, s2]; omega, by omega, by omega, by omega, by omega, hn⟩
    · rw [if_neg h0'] at hn
      have e : (⟨((v8 ++ c).data.toList ++ spc17 (h0.getD v9 0 - (c.size : Nat)).toNat).toArray⟩ : ByteArray).data.toList = (v8.data.toList ++ [] ++ c.data.toList) ++ spc17 (h0.getD v9 0 - (c.size : Nat)).toNat := by
        simp [ByteArray.data_append]
      obtain ⟨n, hn⟩ := l2217 (x0 := x0) (ds := ds) (v7 := v7) (h1 := h1) hw (by omega) _ (v8 ++ c) ((c.size : Nat) : Int) rfl (by omega) (by rw [ByteArray.size_append]; omega) (by omega) (ih (v9 + 1) _ (by omega) (by rw [z]; simp only [List.length_append, spc17, List.length_replicate, ByteArray.data_append, Array.toList_append, hcs, hv8]; omega) (by rw [e]; exact hn))
      refine ⟨n + 1, ?_⟩
      rw [R17_16]
      simp only [Int.toNat_natCast, hcl]
      refine ⟨by omega, by omega, ?_⟩
      rw [if_pos (by simp only [decide_eq_true_eq]; omega), if_neg (by simp only [decide_eq_true_eq]; omega)]
      exact ⟨by omega, by omega, by omega, by omega, by omega, by omega, by omega, by omega, by omega, hn⟩

theorem l1217 {h0 : List Int} (hw : Wid17 h0) (hx : x0.length ≤ 1000000) (hr : ∀ r ∈ x0, r.length ≤ 12 ∧ ∀ c ∈ r, c.size ≤ 4000000) : ∀ (k v7 : Nat) (h1 : List ByteArray), v7 + k = x0.length → h1.length = v7 → ∃ n, R17_12 n (v7 : Int) h1 x0 h0 [⟨.sl .str, h1 ++ (x0.drop v7).map (line17 h0)⟩] := by
  intro k
  induction k with
  | zero =>
    intro v7 h1 hk hl
    refine ⟨1, ?_⟩
    rw [R17_12, if_neg (by simp only [decide_eq_true_eq]; omega), drop_end _ v7 (by omega)]
    simp
  | succ k ih =>
    intro v7 h1 hk hl
    have h7 : v7 < x0.length := by omega
    obtain ⟨r1, r2⟩ := hr _ (mem_getD x0 v7 [] h7)
    obtain ⟨n, hn⟩ := ih (v7 + 1) (h1 ++ [line17 h0 (x0.getD v7 [])]) (by omega) (by rw [List.length_append, hl]; rfl)
    have e : h1 ++ [line17 h0 (x0.getD v7 [])] ++ List.map (line17 h0) (x0.drop (v7 + 1)) = h1 ++ List.map (line17 h0) (x0.drop v7) := by
      rw [drop_get x0 v7 [] h7]; simp
    have e1 : (((v7 + 1 : Nat)) : Int) = (v7 : Int) + 1 := by omega
    rw [e, e1] at hn
    obtain ⟨n', hn'⟩ := l1617 (h1 := h1) (v7 := v7) hw h7 r1 r2 (by omega) (by omega) (x0.getD v7 []).length 0 ByteArray.empty (by omega) (Nat.zero_le _) ⟨n, hn⟩
    refine ⟨n' + 1, ?_⟩
    rw [R17_12, if_pos (by simp only [decide_eq_true_eq]; omega)]
    exact hn'

theorem l617 {v4 : Nat} (h4 : v4 < x0.length) (hr : (x0.getD v4 []).length ≤ 12) (hc : ∀ c ∈ x0.getD v4 [], c.size ≤ 4000000) (hv : v4 < 1000000) :
    ∀ (k v5 : Nat) (h0 : List Int), v5 + k = (x0.getD v4 []).length → Wid17 h0 → (∃ n, R17_3 n ((v4 : Int) + 1) (row17 v5 ((x0.getD v4 []).drop v5) h0) x0 ds) → ∃ n, R17_6 n (v5 : Int) h0 x0 (v4 : Int) ds := by
  intro k
  induction k with
  | zero =>
    intro v5 h0 hk hw ⟨n, hn⟩
    rw [drop_end _ v5 (by omega)] at hn
    refine ⟨n + 1, ?_⟩
    rw [R17_6]
    simp only [Int.toNat_natCast]
    refine ⟨by omega, by omega, ?_⟩
    rw [if_neg (by simp only [decide_eq_true_eq]; omega)]
    exact ⟨by rw [i64_iff]; omega, hn⟩
  | succ k ih =>
    intro v5 h0 hk hw hn
    have h5 : v5 < (x0.getD v4 []).length := by omega
    have hcell := hc _ (mem_getD (x0.getD v4 []) v5 ByteArray.empty h5)
    have hlen := hw.1
    rw [drop_get _ v5 ByteArray.empty h5] at hn
    simp only [row17] at hn
    have hw2 := wset17 hw v5 hcell
    obtain ⟨n, hn⟩ := ih (v5 + 1) _ (by omega) hw2 hn
    refine ⟨n + 1, ?_⟩
    rw [R17_6]
    simp only [Int.toNat_natCast]
    refine ⟨by omega, by omega, ?_⟩
    rw [if_pos (by simp only [decide_eq_true_eq]; omega)]
    refine ⟨by omega, by omega, by omega, by omega, by omega, by omega, ?_⟩
    by_cases hgt : ((((x0.getD v4 []).getD v5 ByteArray.empty).size : Nat) : Int) > h0.getD v5 0
    · rw [if_pos (by simpa using hgt)]
      rw [if_pos hgt] at hn
      exact ⟨by omega, by omega, by omega, by omega, by omega, by omega, by rw [i64_iff]; omega, hn⟩
    · rw [if_neg (by simpa using hgt)]
      rw [if_neg hgt] at hn
      exact ⟨by rw [i64_iff]; omega, hn⟩

theorem l317 (hx : x0.length ≤ 1000000) (hr : ∀ r ∈ x0, r.length ≤ 12 ∧ ∀ c ∈ r, c.size ≤ 4000000) : ∀ (k v4 : Nat) (h0 : List Int), v4 + k = x0.length → Wid17 h0 →
    ∃ n, R17_3 n (v4 : Int) h0 x0 [⟨.sl .str, x0.map (line17 ((x0.drop v4).foldl (fun h r => row17 0 r h) h0))⟩] := by
  intro k
  induction k with
  | zero =>
    intro v4 h0 hk hw
    obtain ⟨n, hn⟩ := l1217 (x0 := x0) hw hx hr x0.length 0 [] (by omega) rfl
    refine ⟨n + 1, ?_⟩
    rw [R17_3, if_neg (by simp only [decide_eq_true_eq]; omega), drop_end _ v4 (by omega)]
    simpa using hn
  | succ k ih =>
    intro v4 h0 hk hw
    have h4 : v4 < x0.length := by omega
    obtain ⟨r1, r2⟩ := hr _ (mem_getD x0 v4 [] h4)
    obtain ⟨n, hn⟩ := ih (v4 + 1) (row17 0 (x0.getD v4 []) h0) (by omega) (wrow17 _ 0 h0 hw r2)
    have e1 : (((v4 + 1 : Nat)) : Int) = (v4 : Int) + 1 := by omega
    rw [e1] at hn
    rw [drop_get x0 v4 [] h4, List.foldl_cons]
    obtain ⟨n', hn'⟩ := l617 (x0 := x0) h4 r1 r2 (by omega) (x0.getD v4 []).length 0 h0 (by omega) hw ⟨n, hn⟩
    refine ⟨n' + 1, ?_⟩
    rw [R17_3, if_pos (by simp only [decide_eq_true_eq]; omega)]
    exact hn'
end

theorem w017 : Wid17 [0, 0, 0, 0, 0, 0, 0, 0, 0, 0, 0, 0] := ⟨rfl, by decide⟩

theorem top17 (x0 : List (List ByteArray)) (h : P17 x0) : ∃ n, R17 n x0 [⟨.sl .str, g17_0 x0⟩] := by
  obtain ⟨n, hn⟩ := l317 h.1 h.2 x0.length 0 _ (by omega) w017
  refine ⟨n + 1, ?_⟩
  rw [R17]
  simpa [g17_0, wide17] using hn

def S17 : Am.Spec := { sig := sig17, pre := fun ⟨x0, _⟩ => P17 x0, res := fun ⟨x0, _⟩ => [⟨.sl .str, g17_0 x0⟩] }
theorem con17 : Contract Tryz.prog 17 S17 := contract_of Tryz.func17 hb17 (Nat.le_of_ble_eq_true (by kernel_rfl)) (fun ⟨x0, _⟩ h hwf K q =>
  let ⟨n, hn⟩ := top17 x0 h
  (snd17 n).1 x0 _ hn K q)

end
end Go.Proofs.YtpoajfdfmiafnaaGreatDoor

/- Function 43 (spec.l30Line): its runs between cut points. Written by a program of this repo (gen). -/
set_option linter.unusedVariables false
set_option linter.unusedSimpArgs false
set_option maxRecDepth 100000
namespace Go.Proofs.YtpoajfdfmiafnaaGreatDoor
open Go Go.Am Go.Proofs
noncomputable section
def ext43 : Ext := []
theorem ext43Ok : ExtOk Tryz.prog ext43 := trivial

noncomputable def b43 : Code := bodyOf Tryz.f43
theorem hb43 : Tryz.f43.body = some b43 := by kernel_rfl
def sig43 : List AT := [AT.v (Ty.str)]
def tys43 : List Ty := [Ty.bool]
def kds43 : List RK := []
def oks43 : List AT := owns sig43
def E43_2 (v3 : Int) (x0 : ByteArray) : Env := [(0, PV.a (Atom.val (Value.string x0))), (3, PV.a (Atom.val (Value.int IntKind.i64 v3)))]
def L43_2 (v3 : Int) (x0 : ByteArray) : Heap := []
mutual
def R43 : Nat → ByteArray → List Dyn → Prop
  | 0, _, _ => False
  | n + 1, x0, ds => (R43_2 n (0) (x0) ds)
def R43_2 : Nat → Int → ByteArray → List Dyn → Prop
  | 0, _, _, _ => False
  | n + 1, v3, x0, ds => (if (Decidable.decide (v3 < (↑(ByteArray.size x0) : Int))) = true then ((0 ≤ v3) ∧ (v3 < (↑(ByteArray.size x0) : Int)) ∧ (if (Decidable.decide ((↑(UInt8.toNat (List.getD (Array.toList (ByteArray.data x0)) (Int.toNat v3) 0)) : Int) < 32)) = true then (ds = [Dyn.mk Ty.bool Bool.false]) else ((0 ≤ v3) ∧ (v3 < (↑(ByteArray.size x0) : Int)) ∧ (if (Decidable.decide ((↑(UInt8.toNat (List.getD (Array.toList (ByteArray.data x0)) (Int.toNat v3) 0)) : Int) > 126)) = true then (ds = [Dyn.mk Ty.bool Bool.false]) else ((InR IntKind.i64 (v3 + 1)) ∧ (R43_2 n (v3 + 1) (x0) ds)))))) else (ds = [Dyn.mk Ty.bool (Decidable.decide ((↑(ByteArray.size x0) : Int) ≤ 100))]))
end
theorem p43_0 (x0 : ByteArray) : Am.runN tab ext43 false 23 [] 2000 [] [] [0, 3] [] [] [.code b43] (entE 0 0 sig43 (x0, ())) (entL sig43 (x0, ())) = some (cutAt b43 2, E43_2 (0) (x0), L43_2 (0) (x0), []) := by kernel_rfl
theorem p43_1 (v3 : Int) (x0 : ByteArray) : runF tab ext43 false 23 [] 2000 [] oks43 kds43 tys43 Tryz.f43.results [true, true, true] (cutAt b43 2) (E43_2 v3 x0) (L43_2 v3 x0) = some ([Dyn.mk Ty.bool Bool.false], [], [Decidable.decide (v3 < (↑(ByteArray.size x0) : Int)) = Bool.true, 0 ≤ v3, v3 < (↑(ByteArray.size x0) : Int), Decidable.decide ((↑(UInt8.toNat (List.getD (Array.toList (ByteArray.data x0)) (Int.toNat v3) 0)) : Int) < 32) = Bool.true, Bool.true = Bool.true]) := by kernel_rfl
theorem p43_2 (v3 : Int) (x0 : ByteArray) : runF tab ext43 false 23 [] 2000 [] oks43 kds43 tys43 Tryz.f43.results [true, false, true] (cutAt b43 2) (E43_2 v3 x0) (L43_2 v3 x0) = some ([Dyn.mk Ty.bool Bool.false], [], [Decidable.decide (v3 < (↑(ByteArray.size x0) : Int)) = Bool.true, 0 ≤ v3, v3 < (↑(ByteArray.size x0) : Int), Decidable.decide ((↑(UInt8.toNat (List.getD (Array.toList (ByteArray.data x0)) (Int.toNat v3) 0)) : Int) < 32) = Bool.false, 0 ≤ v3, v3 < (↑(ByteArray.size x0) : Int), Decidable.decide ((↑(UInt8.toNat (List.getD (Array.toList (ByteArray.data x0)) (Int.toNat v3) 0)) : Int) > 126) = Bool.true]) := by kernel_rfl
theorem p43_3 (v3 : Int) (x0 : ByteArray) : Am.runN tab ext43 false 23 [] 2000 [] [] [0, 3] [] [true, false, false] (cutAt b43 2) (E43_2 v3 x0) (L43_2 v3 x0) = some (cutAt b43 2, E43_2 (v3 + 1) (x0), L43_2 (v3 + 1) (x0), [Decidable.decide (v3 < (↑(ByteArray.size x0) : Int)) = Bool.true, 0 ≤ v3, v3 < (↑(ByteArray.size x0) : Int), Decidable.decide ((↑(UInt8.toNat (List.getD (Array.toList (ByteArray.data x0)) (Int.toNat v3) 0)) : Int) < 32) = Bool.false, 0 ≤ v3, v3 < (↑(ByteArray.size x0) : Int), Decidable.decide ((↑(UInt8.toNat (List.getD (Array.toList (ByteArray.data x0)) (Int.toNat v3) 0)) : Int) > 126) = Bool.false, InR IntKind.i64 (v3 + 1)]) := by kernel_rfl
theorem p43_4 (v3 : Int) (x0 : ByteArray) : runF tab ext43 false 23 [] 2000 [] oks43 kds43 tys43 Tryz.f43.results [false] (cutAt b43 2) (E43_2 v3 x0) (L43_2 v3 x0) = some ([Dyn.mk Ty.bool (Decidable.decide ((↑(ByteArray.size x0) : Int) ≤ 100))], [], [Decidable.decide (v3 < (↑(ByteArray.size x0) : Int)) = Bool.false]) := by kernel_rfl
theorem snd43 : ∀ n, (∀ (x0 : ByteArray) ds, R43 n x0 ds → ∀ K q, AtV Tryz.prog 43 (PostR kds43 oks43 ds [] [] q K) 23 K q [] [.code b43] (entE 0 0 sig43 (x0, ())) (entL sig43 (x0, ()))) ∧ (∀ (v3 : Int) (x0 : ByteArray) ds, R43_2 n v3 x0 ds → ∀ K q, AtV Tryz.prog 43 (PostR kds43 oks43 ds [] [] q K) 23 K q [] (cutAt b43 2) (E43_2 v3 x0) (L43_2 v3 x0)) := by
  intro n
  induction n with
  | zero => exact ⟨fun _ _ h => by simp only [R43] at h, fun _ _ _ h => by simp only [R43_2] at h⟩
  | succ n ih =>
  obtain ⟨ih, ih2⟩ := ih
  refine ⟨?_, ?_⟩
  · intro x0 ds h K q
    rw [R43] at h
    exact AtV.runN tabOk ext43Ok mixed (p43_0 x0) trivial (ih2 _ _ _ h K q)

  · intro v3 x0 ds h K q
    rw [R43_2] at h
    by_cases b0 : (Decidable.decide (v3 < (↑(ByteArray.size x0) : Int))) = true
    · rw [if_pos b0] at h
      obtain ⟨s0, s1, h⟩ := h
      by_cases b1 : (Decidable.decide ((↑(UInt8.toNat (List.getD (Array.toList (ByteArray.data x0)) (Int.toNat v3) 0)) : Int) < 32)) = true
      · rw [if_pos b1] at h
        subst h
        exact AtV.fin Tryz.func43 tabOk ext43Ok mixed (p43_1 v3 x0) ⟨b0, s0, s1, b1, rfl, trivial⟩
      · rw [if_neg b1] at h
        replace b1 := Bool.eq_false_iff.2 b1
        obtain ⟨s2, s3, h⟩ := h
        by_cases b2 : (Decidable.decide ((↑(UInt8.toNat (List.getD (Array.toList (ByteArray.data x0)) (Int.toNat v3) 0)) : Int) > 126)) = true
        · rw [if_pos b2] at h
          subst h
          exact AtV.fin Tryz.func43 tabOk ext43Ok mixed (p43_2 v3 x0) ⟨b0, s0, s1, b1, s2, s3, b2, trivial⟩
        · rw [if_neg b2] at h
          replace b2 := Bool.eq_false_iff.2 b2
          obtain ⟨s4, h⟩ := h
          exact AtV.runN tabOk ext43Ok mixed (p43_3 v3 x0) ⟨b0, s0, s1, b1, s2, s3, b2, s4, trivial⟩ (ih2 _ _ _ h K q)
    · rw [if_neg b0] at h
      replace b0 := Bool.eq_false_iff.2 b0
      subst h
      exact AtV.fin Tryz.func43 tabOk ext43Ok mixed (p43_4 v3 x0) ⟨b0, trivial⟩



def ok43 (b : Int) : Bool := decide (32 ≤ b) && decide (b ≤ 126)
def g43_0 (x0 : ByteArray) : Bool := (bytesOf x0).all ok43 && decide (x0.size ≤ 100)
def P43 (x0 : ByteArray) : Prop := True

theorem top43 (x0 : ByteArray) (hw : Wf .str x0) : R43 (x0.size + 1 + 1) x0 [⟨.bool, g43_0 x0⟩] := by
  have hl := bytesOf_length x0
  rw [R43]
  have key := loop_test (bytesOf x0) 0 ok43 [(⟨.bool, false⟩ : Dyn)] [⟨.bool, decide (x0.size ≤ 100)⟩] (fun n i ds => R43_2 n i x0 ds) (fun n => ?_) (fun n i hi hok ds hr => ?_) (fun n i hi hok => ?_)
  · rw [hl] at key
    unfold g43_0
    cases h : (bytesOf x0).all ok43 <;> rw [h] at key <;> simpa using key
  · show R43_2 (n + 1) ((bytesOf x0).length : Int) x0 _
    rw [R43_2, hl, if_neg (by simp)]
    simp only [Dyn.mk.injEq, heq_eq_eq, true_and, List.cons.injEq, and_true]
    congr 1
    exact propext ⟨fun h => by omega, fun h => by omega⟩
  · simp only [ok43, Bool.and_eq_true, decide_eq_true_eq] at hok
    rw [R43_2, if_pos (by simp; omega)]
    simp only [Int.toNat_natCast, byte_get]
    generalize (bytesOf x0).getD i 0 = c at *
    refine ⟨by omega, by omega, ?_⟩
    rw [if_neg (by simp only [decide_eq_true_eq]; omega)]
    refine ⟨by omega, by omega, ?_⟩
    rw [if_neg (by simp only [decide_eq_true_eq]; omega)]
    exact ⟨inR_up (xs := bytesOf x0) (by rw [hl]; exact hw) hi, hr⟩
  · simp only [ok43, Bool.and_eq_false_iff, decide_eq_false_iff_not] at hok
    rw [R43_2, if_pos (by simp; omega)]
    simp only [Int.toNat_natCast, byte_get]
    generalize (bytesOf x0).getD i 0 = c at *
    refine ⟨by omega, by omega, ?_⟩
    by_cases h1 : c < 32
    · rw [if_pos (by simpa using h1)] <;> trivial
    · rw [if_neg (by simpa using h1)]
      refine ⟨by omega, by omega, ?_⟩
      rw [if_pos (by simp only [decide_eq_true_eq]; omega)] <;> trivial

def S43 : Am.Spec := { sig := sig43, pre := fun ⟨x0, _⟩ => P43 x0, res := fun ⟨x0, _⟩ => [⟨Ty.bool, g43_0 x0⟩] }
theorem con43 : Contract Tryz.prog 43 S43 := contract_of Tryz.func43 hb43 (Nat.le_of_ble_eq_true (by kernel_rfl)) (fun ⟨x0, _⟩ h hwf K q =>
  (snd43 _).1 x0 _ (top43 x0 hwf.1) K q)

end
end Go.Proofs.YtpoajfdfmiafnaaGreatDoor

/- Function 28 (spec.l30Ok): its runs between cut points. Written by a program of this repo (gen). -/
set_option linter.unusedVariables false
set_option linter.unusedSimpArgs false
set_option maxRecDepth 100000
namespace Go.Proofs.YtpoajfdfmiafnaaGreatDoor
open Go Go.Am Go.Proofs
noncomputable section
def ext28 : Ext := [(43, S43)]
theorem call28_43 : Callable Tryz.prog 43 := ⟨Tryz.f43, Tryz.func43, by kernel_rfl, by kernel_rfl⟩
theorem ext28Ok : ExtOk Tryz.prog ext28 := ⟨⟨call28_43, con43⟩, trivial⟩

noncomputable def b28 : Code := bodyOf Tryz.f28
theorem hb28 : Tryz.f28.body = some b28 := by kernel_rfl
def sig28 : List AT := [AT.v (Ty.sl Ty.str)]
def tys28 : List Ty := [Ty.bool]
def kds28 : List RK := []
def oks28 : List AT := owns sig28
def E28_2 (v3 : Int) (x0 : List ByteArray) : Env := [(0, PV.a (Atom.sl Ty.str x0)), (3, PV.a (Atom.val (Value.int IntKind.i64 v3)))]
def L28_2 (v3 : Int) (x0 : List ByteArray) : Heap := []
mutual
def R28 : Nat → List ByteArray → List Dyn → Prop
  | 0, _, _ => False
  | n + 1, x0, ds => (R28_2 n (0) (x0) ds)
def R28_2 : Nat → Int → List ByteArray → List Dyn → Prop
  | 0, _, _, _ => False
  | n + 1, v3, x0, ds => (if (Decidable.decide (v3 < (↑(List.length x0) : Int))) = true then ((0 ≤ v3) ∧ (v3 < (↑(List.length x0) : Int)) ∧ (if (!g43_0 (List.getD x0 (Int.toNat v3) ByteArray.empty)) = true then (ds = [Dyn.mk Ty.bool Bool.false]) else ((InR IntKind.i64 (v3 + 1)) ∧ (R28_2 n (v3 + 1) (x0) ds)))) else (ds = [Dyn.mk Ty.bool (Decidable.decide ((↑(List.length x0) : Int) ≤ 200))]))
end
theorem p28_0 (x0 : List ByteArray) : Am.runN tab ext28 false 19 [] 2000 [] [] [0, 3] [] [] [.code b28] (entE 0 0 sig28 (x0, ())) (entL sig28 (x0, ())) = some (cutAt b28 2, E28_2 (0) (x0), L28_2 (0) (x0), []) := by kernel_rfl
theorem p28_1 (v3 : Int) (x0 : List ByteArray) : runF tab ext28 false 19 [] 2000 [] oks28 kds28 tys28 Tryz.f28.results [true, true] (cutAt b28 2) (E28_2 v3 x0) (L28_2 v3 x0) = some ([Dyn.mk Ty.bool Bool.false], [], [Decidable.decide (v3 < (↑(List.length x0) : Int)) = Bool.true, 0 ≤ v3, v3 < (↑(List.length x0) : Int), True, (!g43_0 (List.getD x0 (Int.toNat v3) ByteArray.empty)) = Bool.true]) := by kernel_rfl
theorem p28_2 (v3 : Int) (x0 : List ByteArray) : Am.runN tab ext28 false 19 [] 2000 [] [] [0, 3] [] [true, false] (cutAt b28 2) (E28_2 v3 x0) (L28_2 v3 x0) = some (cutAt b28 2, E28_2 (v3 + 1) (x0), L28_2 (v3 + 1) (x0), [Decidable.decide (v3 < (↑(List.length x0) : Int)) = Bool.true, 0 ≤ v3, v3 < (↑(List.length x0) : Int), True, (!g43_0 (List.getD x0 (Int.toNat v3) ByteArray.empty)) = Bool.false, InR IntKind.i64 (v3 + 1)]) := by kernel_rfl
theorem p28_3 (v3 : Int) (x0 : List ByteArray) : runF tab ext28 false 19 [] 2000 [] oks28 kds28 tys28 Tryz.f28.results [false] (cutAt b28 2) (E28_2 v3 x0) (L28_2 v3 x0) = some ([Dyn.mk Ty.bool (Decidable.decide ((↑(List.length x0) : Int) ≤ 200))], [], [Decidable.decide (v3 < (↑(List.length x0) : Int)) = Bool.false]) := by kernel_rfl
theorem snd28 : ∀ n, (∀ (x0 : List ByteArray) ds, R28 n x0 ds → ∀ K q, AtV Tryz.prog 28 (PostR kds28 oks28 ds [] [] q K) 19 K q [] [.code b28] (entE 0 0 sig28 (x0, ())) (entL sig28 (x0, ()))) ∧ (∀ (v3 : Int) (x0 : List ByteArray) ds, R28_2 n v3 x0 ds → ∀ K q, AtV Tryz.prog 28 (PostR kds28 oks28 ds [] [] q K) 19 K q [] (cutAt b28 2) (E28_2 v3 x0) (L28_2 v3 x0)) := by
  intro n
  induction n with
  | zero => exact ⟨fun _ _ h => by simp only [R28] at h, fun _ _ _ h => by simp only [R28_2] at h⟩
  | succ n ih =>
  obtain ⟨ih, ih2⟩ := ih
  refine ⟨?_, ?_⟩
  · intro x0 ds h K q
    rw [R28] at h
    exact AtV.runN tabOk ext28Ok mixed (p28_0 x0) trivial (ih2 _ _ _ h K q)

  · intro v3 x0 ds h K q
    rw [R28_2] at h
    by_cases b0 : (Decidable.decide (v3 < (↑(List.length x0) : Int))) = true
    · rw [if_pos b0] at h
      obtain ⟨s0, s1, h⟩ := h
      by_cases b1 : (!g43_0 (List.getD x0 (Int.toNat v3) ByteArray.empty)) = true
      · rw [if_pos b1] at h
        subst h
        exact AtV.fin Tryz.func28 tabOk ext28Ok mixed (p28_1 v3 x0) ⟨b0, s0, s1, trivial, b1, trivial⟩
      · rw [if_neg b1] at h
        replace b1 := Bool.eq_false_iff.2 b1
        obtain ⟨s2, h⟩ := h
        exact AtV.runN tabOk ext28Ok mixed (p28_2 v3 x0) ⟨b0, s0, s1, trivial, b1, s2, trivial⟩ (ih2 _ _ _ h K q)
    · rw [if_neg b0] at h
      replace b0 := Bool.eq_false_iff.2 b0
      subst h
      exact AtV.fin Tryz.func28 tabOk ext28Ok mixed (p28_3 v3 x0) ⟨b0, trivial⟩



def g28_0 (x0 : List ByteArray) : Bool := x0.all g43_0 && decide (x0.length ≤ 200)
def P28 (x0 : List ByteArray) : Prop := True

theorem top28 (x0 : List ByteArray) (hw : Wf (.sl .str) x0) : R28 (x0.length + 1 + 1) x0 [⟨.bool, g28_0 x0⟩] := by
  rw [R28]
  have key := loop_test x0 ByteArray.empty g43_0 [(⟨.bool, false⟩ : Dyn)] [⟨.bool, decide (x0.length ≤ 200)⟩] (fun n i ds => R28_2 n i x0 ds) (fun n => ?_) (fun n i hi hok ds hr => ?_) (fun n i hi hok => ?_)
  · unfold g28_0
    cases h : x0.all g43_0 <;> rw [h] at key <;> simpa using key
  · rw [R28_2, if_neg (by simp)]
    simp only [Dyn.mk.injEq, heq_eq_eq, true_and, List.cons.injEq, and_true]
    congr 1
    exact propext ⟨fun h => by omega, fun h => by omega⟩
  · rw [R28_2, if_pos (by simp; omega)]
    simp only [Int.toNat_natCast]
    refine ⟨by omega, by omega, ?_⟩
    rw [if_neg (by rw [hok]; simp)]
    exact ⟨inR_up hw.1 hi, hr⟩
  · rw [R28_2, if_pos (by simp; omega)]
    simp only [Int.toNat_natCast]
    refine ⟨by omega, by omega, ?_⟩
    rw [if_pos (by rw [hok]; simp)] <;> trivial

def S28 : Am.Spec := { sig := sig28, pre := fun ⟨x0, _⟩ => P28 x0, res := fun ⟨x0, _⟩ => [⟨Ty.bool, g28_0 x0⟩] }
theorem con28 : Contract Tryz.prog 28 S28 := contract_of Tryz.func28 hb28 (Nat.le_of_ble_eq_true (by kernel_rfl)) (fun ⟨x0, _⟩ h hwf K q =>
  (snd28 _).1 x0 _ (top28 x0 hwf.1) K q)

end
end Go.Proofs.YtpoajfdfmiafnaaGreatDoor

/- Function 16 (spec.l30Done): its runs between cut points. Written by a program of this repo (gen). -/
set_option linter.unusedVariables false
set_option linter.unusedSimpArgs false
set_option maxRecDepth 100000
namespace Go.Proofs.YtpoajfdfmiafnaaGreatDoor
open Go Go.Am Go.Proofs
noncomputable section
def ext16 : Ext := [(28, S28)]
theorem call16_28 : Callable Tryz.prog 28 := ⟨Tryz.f28, Tryz.func28, by kernel_rfl, by kernel_rfl⟩
theorem ext16Ok : ExtOk Tryz.prog ext16 := ⟨⟨call16_28, con28⟩, trivial⟩

noncomputable def b16 : Code := bodyOf Tryz.f16
theorem hb16 : Tryz.f16.body = some b16 := by kernel_rfl
def sig16 : List AT := [AT.own Ty.str]
def tys16 : List Ty := [Ty.sl Ty.str, Ty.int IntKind.i64]
def kds16 : List RK := []
def oks16 : List AT := owns sig16
def P16 (x0 : List ByteArray) : Prop := True
def g16_0 (x0 : List ByteArray) : List ByteArray := (if (!g28_0 x0) = true then [] else x0)
def g16_1 (x0 : List ByteArray) : Int := (if (!g28_0 x0) = true then 5 else 0)
theorem p16_0 (x0 : List ByteArray) : runF tab ext16 false 8 [] 2000 [0] oks16 kds16 tys16 Tryz.f16.results [true] [.code b16] (entE 0 0 sig16 (x0, ())) (entL sig16 (x0, ())) = some ([Dyn.mk (Ty.sl Ty.str) [], Dyn.mk (Ty.int IntKind.i64) 5], [Option.some (Lst.mk Ty.str x0)], [True, (!g28_0 x0) = Bool.true]) := by kernel_rfl
theorem p16_1 (x0 : List ByteArray) : runF tab ext16 false 8 [] 2000 [0] oks16 kds16 tys16 Tryz.f16.results [false] [.code b16] (entE 0 0 sig16 (x0, ())) (entL sig16 (x0, ())) = some ([Dyn.mk (Ty.sl Ty.str) x0, Dyn.mk (Ty.int IntKind.i64) 0], [Option.none], [True, (!g28_0 x0) = Bool.false]) := by kernel_rfl
theorem at16 (x0 : List ByteArray) (h : P16 x0) (K : Ctx) (q : Nat → Value) : AtV Tryz.prog 16 (PostR kds16 oks16 [⟨Ty.sl Ty.str, g16_0 x0⟩, ⟨Ty.int IntKind.i64, g16_1 x0⟩] [none] [0] q K) 8 K q [0] [.code b16] (entE 0 0 sig16 (x0, ())) (entL sig16 (x0, ())) := by
  unfold P16 at h
  unfold g16_0 g16_1
  by_cases b0 : (!g28_0 x0) = true
  · try simp only [if_pos b0] at h ⊢
    exact AtV.weak (AtV.fin Tryz.func16 tabOk ext16Ok mixed (p16_0 x0) ⟨trivial, b0, trivial⟩) ⟨.inr rfl, trivial⟩
  · try simp only [if_neg b0] at h ⊢
    replace b0 := Bool.eq_false_iff.2 b0
    exact AtV.weak (AtV.fin Tryz.func16 tabOk ext16Ok mixed (p16_1 x0) ⟨trivial, b0, trivial⟩) ⟨.inr rfl, trivial⟩

def S16 : Am.Spec := { sig := sig16, pre := fun ⟨x0, _⟩ => P16 x0, upd := fun ⟨x0, _⟩ => [none], res := fun ⟨x0, _⟩ => [⟨Ty.sl Ty.str, g16_0 x0⟩, ⟨Ty.int IntKind.i64, g16_1 x0⟩], kds := kds16 }
theorem con16 : Contract Tryz.prog 16 S16 := contract_of Tryz.func16 hb16 (Nat.le_of_ble_eq_true (by kernel_rfl)) (fun ⟨x0, _⟩ h _ K q => at16 x0 h K q)


end
end Go.Proofs.YtpoajfdfmiafnaaGreatDoor

/- Function 5 (spec.WearReport): its runs between cut points. Written by a program of this repo (gen). -/
set_option linter.unusedVariables false
set_option linter.unusedSimpArgs false
set_option maxRecDepth 100000
namespace Go.Proofs.YtpoajfdfmiafnaaGreatDoor
open Go Go.Am Go.Proofs
noncomputable section
def ext5 : Ext := [(13, S13), (14, S14), (15, S15), (17, S17), (16, S16)]
theorem call5_13 : Callable Tryz.prog 13 := ⟨Tryz.f13, Tryz.func13, by kernel_rfl, by kernel_rfl⟩
theorem call5_14 : Callable Tryz.prog 14 := ⟨Tryz.f14, Tryz.func14, by kernel_rfl, by kernel_rfl⟩
theorem call5_15 : Callable Tryz.prog 15 := ⟨Tryz.f15, Tryz.func15, by kernel_rfl, by kernel_rfl⟩
theorem call5_17 : Callable Tryz.prog 17 := ⟨Tryz.f17, Tryz.func17, by kernel_rfl, by kernel_rfl⟩
theorem call5_16 : Callable Tryz.prog 16 := ⟨Tryz.f16, Tryz.func16, by kernel_rfl, by kernel_rfl⟩
theorem ext5Ok : ExtOk Tryz.prog ext5 := ⟨⟨call5_13, con13⟩, ⟨call5_14, con14⟩, ⟨call5_15, con15⟩, ⟨call5_17, con17⟩, ⟨call5_16, con16⟩, trivial⟩

noncomputable def b5 : Code := bodyOf Tryz.f5
theorem hb5 : Tryz.f5.body = some b5 := by kernel_rfl
def sig5 : List AT := [AT.v (Ty.sl (Ty.cons (Ty.int IntKind.i64) (Ty.cons (Ty.int IntKind.i64) (Ty.cons (Ty.int IntKind.i64) Ty.unit))))]
def tys5 : List Ty := [Ty.sl Ty.str, Ty.int IntKind.i64]
def kds5 : List RK := []
def oks5 : List AT := owns sig5
def E5_5 (v5 : Int) (h0 : List (List ByteArray)) (x0 : List (Int × Int × Int × Unit)) : Env := [(0, PV.a (Atom.sl (Ty.cons (Ty.int IntKind.i64) (Ty.cons (Ty.int IntKind.i64) (Ty.cons (Ty.int IntKind.i64) Ty.unit))) x0)), (4, PV.a (Atom.osl 0 Option.none)), (5, PV.a (Atom.val (Value.int IntKind.i64 v5)))]
def L5_5 (v5 : Int) (h0 : List (List ByteArray)) (x0 : List (Int × Int × Int × Unit)) : Heap := [Option.some (Arr.mk (Ty.sl Ty.str) h0 Bool.true Option.none Option.none)]
mutual
def R5 : Nat → List (Int × Int × Int × Unit) → List Dyn → Prop
  | 0, _, _ => False
  | n + 1, x0, ds => (if (!g13_0 x0) = true then (ds = [Dyn.mk (Ty.sl Ty.str) [], Dyn.mk (Ty.int IntKind.i64) 1]) else (R5_5 n (0) ([[ByteArray.mk #[100, 97, 121], ByteArray.mk #[98, 114, 111, 107, 101, 110], ByteArray.mk #[119, 111, 114, 110]]]) (x0) ds))
def R5_5 : Nat → Int → List (List ByteArray) → List (Int × Int × Int × Unit) → List Dyn → Prop
  | 0, _, _, _, _ => False
  | n + 1, v5, h0, x0, ds => (if (Decidable.decide (v5 < (↑(List.length x0) : Int))) = true then ((0 ≤ v5) ∧ (v5 < (↑(List.length x0) : Int)) ∧ ((P14 (Prod.fst (List.getD x0 (Int.toNat v5) (0, 0, 0, ())))) ∧ (((List.length h0 + 1) * 24 ≤ 140737488355328) ∧ ((InR IntKind.i64 (v5 + 1)) ∧ (R5_5 n (v5 + 1) (h0 ++ [[g14_0 (Prod.fst (List.getD x0 (Int.toNat v5) (0, 0, 0, ()))), g15_0 (Prod.fst (Prod.snd (List.getD x0 (Int.toNat v5) (0, 0, 0, ())))), g15_0 (Prod.fst (Prod.snd (Prod.snd (List.getD x0 (Int.toNat v5) (0, 0, 0, ())))))]]) (x0) ds))))) else ((P17 h0) ∧ (ds = [Dyn.mk (Ty.sl Ty.str) (g16_0 (g17_0 h0)), Dyn.mk (Ty.int IntKind.i64) (g16_1 (g17_0 h0))])))
end
theorem p5_0 (x0 : List (Int × Int × Int × Unit)) : runF tab ext5 false 45 [] 2000 [] oks5 kds5 tys5 Tryz.f5.results [true] [.code b5] (entE 0 0 sig5 (x0, ())) (entL sig5 (x0, ())) = some ([Dyn.mk (Ty.sl Ty.str) [], Dyn.mk (Ty.int IntKind.i64) 1], [], [True, (!g13_0 x0) = Bool.true]) := by kernel_rfl
theorem p5_1 (x0 : List (Int × Int × Int × Unit)) : Am.runN tab ext5 false 45 [] 2000 [] [] [0, 4, 5] [1] [false] [.code b5] (entE 0 0 sig5 (x0, ())) (entL sig5 (x0, ())) = some (cutAt b5 5, E5_5 (0) ([[ByteArray.mk #[100, 97, 121], ByteArray.mk #[98, 114, 111, 107, 101, 110], ByteArray.mk #[119, 111, 114, 110]]]) (x0), L5_5 (0) ([[ByteArray.mk #[100, 97, 121], ByteArray.mk #[98, 114, 111, 107, 101, 110], ByteArray.mk #[119, 111, 114, 110]]]) (x0), [True, (!g13_0 x0) = Bool.false]) := by kernel_rfl
theorem p5_2 (v5 : Int) (h0 : List (List ByteArray)) (x0 : List (Int × Int × Int × Unit)) : Am.runN tab ext5 false 45 [] 2000 [] [] [0, 4, 5] [0] [true] (cutAt b5 5) (E5_5 v5 h0 x0) (L5_5 v5 h0 x0) = some (cutAt b5 5, E5_5 (v5 + 1) (h0 ++ [[g14_0 (Prod.fst (List.getD x0 (Int.toNat v5) (0, 0, 0, ()))), g15_0 (Prod.fst (Prod.snd (List.getD x0 (Int.toNat v5) (0, 0, 0, ())))), g15_0 (Prod.fst (Prod.snd (Prod.snd (List.getD x0 (Int.toNat v5) (0, 0, 0, ())))))]]) (x0), L5_5 (v5 + 1) (h0 ++ [[g14_0 (Prod.fst (List.getD x0 (Int.toNat v5) (0, 0, 0, ()))), g15_0 (Prod.fst (Prod.snd (List.getD x0 (Int.toNat v5) (0, 0, 0, ())))), g15_0 (Prod.fst (Prod.snd (Prod.snd (List.getD x0 (Int.toNat v5) (0, 0, 0, ())))))]]) (x0), [Decidable.decide (v5 < (↑(List.length x0) : Int)) = Bool.true, 0 ≤ v5, v5 < (↑(List.length x0) : Int), P14 (Prod.fst (List.getD x0 (Int.toNat v5) (0, 0, 0, ()))), True, True, (List.length h0 + 1) * 24 ≤ 140737488355328, InR IntKind.i64 (v5 + 1)]) := by kernel_rfl
theorem p5_3 (v5 : Int) (h0 : List (List ByteArray)) (x0 : List (Int × Int × Int × Unit)) : runF tab ext5 false 45 [] 2000 [] oks5 kds5 tys5 Tryz.f5.results [false] (cutAt b5 5) (E5_5 v5 h0 x0) (L5_5 v5 h0 x0) = some ([Dyn.mk (Ty.sl Ty.str) (g16_0 (g17_0 h0)), Dyn.mk (Ty.int IntKind.i64) (g16_1 (g17_0 h0))], [], [Decidable.decide (v5 < (↑(List.length x0) : Int)) = Bool.false, P17 h0, True]) := by kernel_rfl
theorem snd5 : ∀ n, (∀ (x0 : List (Int × Int × Int × Unit)) ds, R5 n x0 ds → ∀ K q, AtV Tryz.prog 5 (PostR kds5 oks5 ds [] [] q K) 45 K q [] [.code b5] (entE 0 0 sig5 (x0, ())) (entL sig5 (x0, ()))) ∧ (∀ (v5 : Int) (h0 : List (List ByteArray)) (x0 : List (Int × Int × Int × Unit)) ds, R5_5 n v5 h0 x0 ds → ∀ K q, AtV Tryz.prog 5 (PostR kds5 oks5 ds [] [] q K) 45 K q [] (cutAt b5 5) (E5_5 v5 h0 x0) (L5_5 v5 h0 x0)) := by
  intro n
  induction n with
  | zero => exact ⟨fun _ _ h => by simp only [R5] at h, fun _ _ _ _ h => by simp only [R5_5] at h⟩
  | succ n ih =>
  obtain ⟨ih, ih5⟩ := ih
  refine ⟨?_, ?_⟩
  · intro x0 ds h K q
    rw [R5] at h
    by_cases b0 : (!g13_0 x0) = true
    · rw [if_pos b0] at h
      subst h
      exact AtV.fin Tryz.func5 tabOk ext5Ok mixed (p5_0 x0) ⟨trivial, b0, trivial⟩
    · rw [if_neg b0] at h
      replace b0 := Bool.eq_false_iff.2 b0
      exact AtV.runN tabOk ext5Ok mixed (p5_1 x0) ⟨trivial, b0, trivial⟩ (ih5 _ _ _ _ h K q)

  · intro v5 h0 x0 ds h K q
    rw [R5_5] at h
    by_cases b0 : (Decidable.decide (v5 < (↑(List.length x0) : Int))) = true
    · rw [if_pos b0] at h
      obtain ⟨s0, s1, h⟩ := h
      obtain ⟨s2, h⟩ := h
      obtain ⟨s3, h⟩ := h
      obtain ⟨s4, h⟩ := h
      exact AtV.runN tabOk ext5Ok mixed (p5_2 v5 h0 x0) ⟨b0, s0, s1, s2, trivial, trivial, s3, s4, trivial⟩ (ih5 _ _ _ _ h K q)
    · rw [if_neg b0] at h
      replace b0 := Bool.eq_false_iff.2 b0
      obtain ⟨s0, h⟩ := h
      subst h
      exact AtV.fin Tryz.func5 tabOk ext5Ok mixed (p5_3 v5 h0 x0) ⟨b0, s0, trivial, trivial⟩



def hd5 : List ByteArray := [ByteArray.mk #[100, 97, 121], ByteArray.mk #[98, 114, 111, 107, 101, 110], ByteArray.mk #[119, 111, 114, 110]]
def rw5 (f : Int × Int × Int × Unit) : List ByteArray := [g14_0 f.1, g15_0 f.2.1, g15_0 f.2.2.1]
def P5 (x0 : List (Int × Int × Int × Unit)) : Prop := g13_0 x0 = true → x0.length ≤ 1000 ∧ ∀ f ∈ x0, P14 f.1 ∧ ∀ c ∈ rw5 f, c.size ≤ 4000000
def g5_0 (x0 : List (Int × Int × Int × Unit)) : List ByteArray := if g13_0 x0 = true then g16_0 (g17_0 (hd5 :: x0.map rw5)) else []
def g5_1 (x0 : List (Int × Int × Int × Unit)) : Int := if g13_0 x0 = true then g16_1 (g17_0 (hd5 :: x0.map rw5)) else 1

theorem pre5 {x0 : List (Int × Int × Int × Unit)} (hl : x0.length ≤ 1000) (hc : ∀ f ∈ x0, ∀ c ∈ rw5 f, c.size ≤ 4000000) : P17 (hd5 :: x0.map rw5) := by
  refine ⟨by simp only [List.length_cons, List.length_map]; omega, fun r hr => ?_⟩
  rcases List.mem_cons.1 hr with rfl | hr
  · exact ⟨by decide, by decide⟩
  · obtain ⟨f, hf, rfl⟩ := List.mem_map.1 hr
    exact ⟨by show 3 ≤ 12; decide, hc f hf⟩

theorem run5 (x0 : List (Int × Int × Int × Unit)) (hl : x0.length ≤ 1000) (hc : ∀ f ∈ x0, P14 f.1 ∧ ∀ c ∈ rw5 f, c.size ≤ 4000000) : ∀ (k i : Nat), i + k = x0.length →
    R5_5 (k + 1) (i : Int) (hd5 :: (x0.take i).map rw5) x0 [⟨.sl .str, g16_0 (g17_0 (hd5 :: x0.map rw5))⟩, ⟨.int .i64, g16_1 (g17_0 (hd5 :: x0.map rw5))⟩] := by
  intro k
  induction k with
  | zero =>
    intro i hi
    rw [R5_5, if_neg (by simp only [decide_eq_true_eq]; omega), List.take_of_length_le (by omega)]
    exact ⟨pre5 hl (fun f hf => (hc f hf).2), rfl⟩
  | succ k ih =>
    intro i hi
    have hlt : i < x0.length := by omega
    have h := ih (i + 1) (by omega)
    have e1 : (((i + 1 : Nat)) : Int) = (i : Int) + 1 := by omega
    rw [e1] at h
    have hm := mem_getD x0 i ((0 : Int), (0 : Int), (0 : Int), ()) hlt
    rw [R5_5, if_pos (by simp only [decide_eq_true_eq]; omega)]
    simp only [Int.toNat_natCast]
    refine ⟨by omega, by omega, (hc _ hm).1, ?_, by rw [i64_iff]; omega, ?_⟩
    · simp only [List.length_cons, List.length_map, List.length_take]; omega
    · have e : x0.take (i + 1) = x0.take i ++ [x0.getD i ((0 : Int), (0 : Int), (0 : Int), ())] := by
        rw [getD_lt x0 i _ hlt, List.take_append_getElem hlt]
      rw [e, List.map_append] at h
      exact h

theorem top5 (x0 : List (Int × Int × Int × Unit)) (h : P5 x0) : ∃ n, R5 n x0 [⟨.sl .str, g5_0 x0⟩, ⟨.int .i64, g5_1 x0⟩] := by
  unfold g5_0 g5_1
  cases hv : g13_0 x0 with
  | false =>
    refine ⟨1, ?_⟩
    rw [R5, if_pos (by rw [hv]; rfl)]
    rfl
  | true =>
    obtain ⟨hl, hc⟩ := h hv
    refine ⟨x0.length + 1 + 1, ?_⟩
    rw [R5, if_neg (by rw [hv]; simp)]
    simp only [if_true]
    exact run5 x0 hl hc x0.length 0 (by omega)

def S5 : Am.Spec := { sig := sig5, pre := fun ⟨x0, _⟩ => P5 x0, res := fun ⟨x0, _⟩ => [⟨.sl .str, g5_0 x0⟩, ⟨.int .i64, g5_1 x0⟩] }
theorem con5 : Contract Tryz.prog 5 S5 := contract_of Tryz.func5 hb5 (Nat.le_of_ble_eq_true (by kernel_rfl)) (fun ⟨x0, _⟩ h hwf K q =>
  let ⟨n, hn⟩ := top5 x0 h
  (snd5 n).1 x0 _ hn K q)

end
end Go.Proofs.YtpoajfdfmiafnaaGreatDoor

/- Function 45 (impl.within): its runs between cut points. Written by a program of this repo (gen). -/
set_option linter.unusedVariables false
set_option linter.unusedSimpArgs false
set_option maxRecDepth 100000
namespace Go.Proofs.YtpoajfdfmiafnaaGreatDoor
open Go Go.Am Go.Proofs
noncomputable section
def ext45 : Ext := []
theorem ext45Ok : ExtOk Tryz.prog ext45 := trivial

noncomputable def b45 : Code := bodyOf Tryz.f45
theorem hb45 : Tryz.f45.body = some b45 := by kernel_rfl
def sig45 : List AT := [AT.v (Ty.int IntKind.i64), AT.v (Ty.int IntKind.i64), AT.v (Ty.int IntKind.i64)]
def tys45 : List Ty := [Ty.bool]
def kds45 : List RK := []
def oks45 : List AT := owns sig45
def P45 (x0 : Int) (x1 : Int) (x2 : Int) : Prop := True
def g45_0 (x0 : Int) (x1 : Int) (x2 : Int) : Bool := (if (Decidable.decide (x0 ≥ x1)) = true then Decidable.decide (x0 ≤ x2) else Bool.false)
theorem p45_0 (x0 : Int) (x1 : Int) (x2 : Int) : runF tab ext45 false 15 [] 2000 [] oks45 kds45 tys45 Tryz.f45.results [true] [.code b45] (entE 0 0 sig45 (x0, x1, x2, ())) (entL sig45 (x0, x1, x2, ())) = some ([Dyn.mk Ty.bool (Decidable.decide (x0 ≤ x2))], [], [Decidable.decide (x0 ≥ x1) = Bool.true]) := by kernel_rfl
theorem p45_1 (x0 : Int) (x1 : Int) (x2 : Int) : runF tab ext45 false 15 [] 2000 [] oks45 kds45 tys45 Tryz.f45.results [false] [.code b45] (entE 0 0 sig45 (x0, x1, x2, ())) (entL sig45 (x0, x1, x2, ())) = some ([Dyn.mk Ty.bool Bool.false], [], [Decidable.decide (x0 ≥ x1) = Bool.false]) := by kernel_rfl
theorem at45 (x0 : Int) (x1 : Int) (x2 : Int) (h : P45 x0 x1 x2) (K : Ctx) (q : Nat → Value) : AtV Tryz.prog 45 (PostR kds45 oks45 [⟨Ty.bool, g45_0 x0 x1 x2⟩] [] [] q K) 15 K q [] [.code b45] (entE 0 0 sig45 (x0, x1, x2, ())) (entL sig45 (x0, x1, x2, ())) := by
  unfold P45 at h
  unfold g45_0
  by_cases b0 : (Decidable.decide (x0 ≥ x1)) = true
  · try simp only [if_pos b0] at h ⊢
    exact AtV.fin Tryz.func45 tabOk ext45Ok mixed (p45_0 x0 x1 x2) ⟨b0, trivial⟩
  · try simp only [if_neg b0] at h ⊢
    replace b0 := Bool.eq_false_iff.2 b0
    exact AtV.fin Tryz.func45 tabOk ext45Ok mixed (p45_1 x0 x1 x2) ⟨b0, trivial⟩

def S45 : Am.Spec := { sig := sig45, pre := fun ⟨x0, x1, x2, _⟩ => P45 x0 x1 x2, res := fun ⟨x0, x1, x2, _⟩ => [⟨Ty.bool, g45_0 x0 x1 x2⟩], kds := kds45 }
theorem con45 : Contract Tryz.prog 45 S45 := contract_of Tryz.func45 hb45 (Nat.le_of_ble_eq_true (by kernel_rfl)) (fun ⟨x0, x1, x2, _⟩ h _ K q => at45 x0 x1 x2 h K q)


end
end Go.Proofs.YtpoajfdfmiafnaaGreatDoor

/- Function 30 (impl.isDay): its runs between cut points. Written by a program of this repo (gen). -/
set_option linter.unusedVariables false
set_option linter.unusedSimpArgs false
set_option maxRecDepth 100000
namespace Go.Proofs.YtpoajfdfmiafnaaGreatDoor
open Go Go.Am Go.Proofs
noncomputable section
def ext30 : Ext := [(45, S45)]
theorem call30_45 : Callable Tryz.prog 45 := ⟨Tryz.f45, Tryz.func45, by kernel_rfl, by kernel_rfl⟩
theorem ext30Ok : ExtOk Tryz.prog ext30 := ⟨⟨call30_45, con45⟩, trivial⟩

noncomputable def b30 : Code := bodyOf Tryz.f30
theorem hb30 : Tryz.f30.body = some b30 := by kernel_rfl
def sig30 : List AT := [AT.v (Ty.int IntKind.i64)]
def tys30 : List Ty := [Ty.bool]
def kds30 : List RK := []
def oks30 : List AT := owns sig30
def P30 (x0 : Int) : Prop := True
def g30_0 (x0 : Int) : Bool := g45_0 x0 0 36524
theorem p30_0 (x0 : Int) : runF tab ext30 false 5 [] 2000 [] oks30 kds30 tys30 Tryz.f30.results [] [.code b30] (entE 0 0 sig30 (x0, ())) (entL sig30 (x0, ())) = some ([Dyn.mk Ty.bool (g45_0 x0 0 36524)], [], [True]) := by kernel_rfl
theorem at30 (x0 : Int) (h : P30 x0) (K : Ctx) (q : Nat → Value) : AtV Tryz.prog 30 (PostR kds30 oks30 [⟨Ty.bool, g30_0 x0⟩] [] [] q K) 5 K q [] [.code b30] (entE 0 0 sig30 (x0, ())) (entL sig30 (x0, ())) := by
  unfold P30 at h
  unfold g30_0
  exact AtV.fin Tryz.func30 tabOk ext30Ok mixed (p30_0 x0) ⟨trivial, trivial⟩

def S30 : Am.Spec := { sig := sig30, pre := fun ⟨x0, _⟩ => P30 x0, res := fun ⟨x0, _⟩ => [⟨Ty.bool, g30_0 x0⟩], kds := kds30 }
theorem con30 : Contract Tryz.prog 30 S30 := contract_of Tryz.func30 hb30 (Nat.le_of_ble_eq_true (by kernel_rfl)) (fun ⟨x0, _⟩ h _ K q => at30 x0 h K q)


end
end Go.Proofs.YtpoajfdfmiafnaaGreatDoor

/- Function 67 (impl.isShare): its runs between cut points. Written by a program of this repo (gen). -/
set_option linter.unusedVariables false
set_option linter.unusedSimpArgs false
set_option maxRecDepth 100000
namespace Go.Proofs.YtpoajfdfmiafnaaGreatDoor
open Go Go.Am Go.Proofs
noncomputable section
def ext67 : Ext := [(45, S45)]
theorem call67_45 : Callable Tryz.prog 45 := ⟨Tryz.f45, Tryz.func45, by kernel_rfl, by kernel_rfl⟩
theorem ext67Ok : ExtOk Tryz.prog ext67 := ⟨⟨call67_45, con45⟩, trivial⟩

noncomputable def b67 : Code := bodyOf Tryz.f67
theorem hb67 : Tryz.f67.body = some b67 := by kernel_rfl
def sig67 : List AT := [AT.v (Ty.int IntKind.i64)]
def tys67 : List Ty := [Ty.bool]
def kds67 : List RK := []
def oks67 : List AT := owns sig67
def P67 (x0 : Int) : Prop := True
def g67_0 (x0 : Int) : Bool := g45_0 x0 0 1000
theorem p67_0 (x0 : Int) : runF tab ext67 false 5 [] 2000 [] oks67 kds67 tys67 Tryz.f67.results [] [.code b67] (entE 0 0 sig67 (x0, ())) (entL sig67 (x0, ())) = some ([Dyn.mk Ty.bool (g45_0 x0 0 1000)], [], [True]) := by kernel_rfl
theorem at67 (x0 : Int) (h : P67 x0) (K : Ctx) (q : Nat → Value) : AtV Tryz.prog 67 (PostR kds67 oks67 [⟨Ty.bool, g67_0 x0⟩] [] [] q K) 5 K q [] [.code b67] (entE 0 0 sig67 (x0, ())) (entL sig67 (x0, ())) := by
  unfold P67 at h
  unfold g67_0
  exact AtV.fin Tryz.func67 tabOk ext67Ok mixed (p67_0 x0) ⟨trivial, trivial⟩

def S67 : Am.Spec := { sig := sig67, pre := fun ⟨x0, _⟩ => P67 x0, res := fun ⟨x0, _⟩ => [⟨Ty.bool, g67_0 x0⟩], kds := kds67 }
theorem con67 : Contract Tryz.prog 67 S67 := contract_of Tryz.func67 hb67 (Nat.le_of_ble_eq_true (by kernel_rfl)) (fun ⟨x0, _⟩ h _ K q => at67 x0 h K q)


end
end Go.Proofs.YtpoajfdfmiafnaaGreatDoor

/- Function 44 (impl.isTest): its runs between cut points. Written by a program of this repo (gen). -/
set_option linter.unusedVariables false
set_option linter.unusedSimpArgs false
set_option maxRecDepth 100000
namespace Go.Proofs.YtpoajfdfmiafnaaGreatDoor
open Go Go.Am Go.Proofs
noncomputable section
def ext44 : Ext := [(30, S30), (45, S45), (67, S67)]
theorem call44_30 : Callable Tryz.prog 30 := ⟨Tryz.f30, Tryz.func30, by kernel_rfl, by kernel_rfl⟩
theorem call44_45 : Callable Tryz.prog 45 := ⟨Tryz.f45, Tryz.func45, by kernel_rfl, by kernel_rfl⟩
theorem call44_67 : Callable Tryz.prog 67 := ⟨Tryz.f67, Tryz.func67, by kernel_rfl, by kernel_rfl⟩
theorem ext44Ok : ExtOk Tryz.prog ext44 := ⟨⟨call44_30, con30⟩, ⟨call44_45, con45⟩, ⟨call44_67, con67⟩, trivial⟩

noncomputable def b44 : Code := bodyOf Tryz.f44
theorem hb44 : Tryz.f44.body = some b44 := by kernel_rfl
def sig44 : List AT := [AT.v (Ty.cons (Ty.int IntKind.i64) (Ty.cons (Ty.int IntKind.i64) (Ty.cons (Ty.int IntKind.i64) Ty.unit)))]
def tys44 : List Ty := [Ty.bool]
def kds44 : List RK := []
def oks44 : List AT := owns sig44
def P44 (x0 : Int × Int × Int × Unit) : Prop := True
def g44_0 (x0 : Int × Int × Int × Unit) : Bool := (if (g30_0 (Prod.fst x0)) = true then (if (g45_0 (Prod.fst (Prod.snd x0)) 0 24000) = true then g67_0 (Prod.fst (Prod.snd (Prod.snd x0))) else Bool.false) else Bool.false)
theorem p44_0 (x0 : Int × Int × Int × Unit) : runF tab ext44 false 16 [] 2000 [] oks44 kds44 tys44 Tryz.f44.results [true, true] [.code b44] (entE 0 0 sig44 (x0, ())) (entL sig44 (x0, ())) = some ([Dyn.mk Ty.bool (g67_0 (Prod.fst (Prod.snd (Prod.snd x0))))], [], [True, g30_0 (Prod.fst x0) = Bool.true, True, g45_0 (Prod.fst (Prod.snd x0)) 0 24000 = Bool.true, True]) := by kernel_rfl
theorem p44_1 (x0 : Int × Int × Int × Unit) : runF tab ext44 false 16 [] 2000 [] oks44 kds44 tys44 Tryz.f44.results [true, false] [.code b44] (entE 0 0 sig44 (x0, ())) (entL sig44 (x0, ())) = some ([Dyn.mk Ty.bool Bool.false], [], [True, g30_0 (Prod.fst x0) = Bool.true, True, g45_0 (Prod.fst (Prod.snd x0)) 0 24000 = Bool.false]) := by kernel_rfl
theorem p44_2 (x0 : Int × Int × Int × Unit) : runF tab ext44 false 16 [] 2000 [] oks44 kds44 tys44 Tryz.f44.results [false, false] [.code b44] (entE 0 0 sig44 (x0, ())) (entL sig44 (x0, ())) = some ([Dyn.mk Ty.bool Bool.false], [], [True, g30_0 (Prod.fst x0) = Bool.false, Bool.false = Bool.false]) := by kernel_rfl
theorem at44 (x0 : Int × Int × Int × Unit) (h : P44 x0) (K : Ctx) (q : Nat → Value) : AtV Tryz.prog 44 (PostR kds44 oks44 [⟨Ty.bool, g44_0 x0⟩] [] [] q K) 16 K q [] [.code b44] (entE 0 0 sig44 (x0, ())) (entL sig44 (x0, ())) := by
  unfold P44 at h
  unfold g44_0
  by_cases b0 : (g30_0 (Prod.fst x0)) = true
  · try simp only [if_pos b0] at h ⊢
    by_cases b1 : (g45_0 (Prod.fst (Prod.snd x0)) 0 24000) = true
    · try simp only [if_pos b1] at h ⊢
      exact AtV.fin Tryz.func44 tabOk ext44Ok mixed (p44_0 x0) ⟨trivial, b0, trivial, b1, trivial, trivial⟩
    · try simp only [if_neg b1] at h ⊢
      replace b1 := Bool.eq_false_iff.2 b1
      exact AtV.fin Tryz.func44 tabOk ext44Ok mixed (p44_1 x0) ⟨trivial, b0, trivial, b1, trivial⟩
  · try simp only [if_neg b0] at h ⊢
    replace b0 := Bool.eq_false_iff.2 b0
    exact AtV.fin Tryz.func44 tabOk ext44Ok mixed (p44_2 x0) ⟨trivial, b0, rfl, trivial⟩

def S44 : Am.Spec := { sig := sig44, pre := fun ⟨x0, _⟩ => P44 x0, res := fun ⟨x0, _⟩ => [⟨Ty.bool, g44_0 x0⟩], kds := kds44 }
theorem con44 : Contract Tryz.prog 44 S44 := contract_of Tryz.func44 hb44 (Nat.le_of_ble_eq_true (by kernel_rfl)) (fun ⟨x0, _⟩ h _ K q => at44 x0 h K q)


end
end Go.Proofs.YtpoajfdfmiafnaaGreatDoor

/- Function 29 (impl.areTests): its runs between cut points. Written by a program of this repo (gen). -/
set_option linter.unusedVariables false
set_option linter.unusedSimpArgs false
set_option maxRecDepth 100000
namespace Go.Proofs.YtpoajfdfmiafnaaGreatDoor
open Go Go.Am Go.Proofs
noncomputable section
def ext29 : Ext := [(44, S44)]
theorem call29_44 : Callable Tryz.prog 44 := ⟨Tryz.f44, Tryz.func44, by kernel_rfl, by kernel_rfl⟩
theorem ext29Ok : ExtOk Tryz.prog ext29 := ⟨⟨call29_44, con44⟩, trivial⟩

noncomputable def b29 : Code := bodyOf Tryz.f29
theorem hb29 : Tryz.f29.body = some b29 := by kernel_rfl
def sig29 : List AT := [AT.v (Ty.sl (Ty.cons (Ty.int IntKind.i64) (Ty.cons (Ty.int IntKind.i64) (Ty.cons (Ty.int IntKind.i64) Ty.unit))))]
def tys29 : List Ty := [Ty.bool]
def kds29 : List RK := []
def oks29 : List AT := owns sig29
def E29_2 (v7 : Int) (x0 : List (Int × Int × Int × Unit)) : Env := [(0, PV.a (Atom.sl (Ty.cons (Ty.int IntKind.i64) (Ty.cons (Ty.int IntKind.i64) (Ty.cons (Ty.int IntKind.i64) Ty.unit))) x0)), (5, PV.a (Atom.sl (Ty.cons (Ty.int IntKind.i64) (Ty.cons (Ty.int IntKind.i64) (Ty.cons (Ty.int IntKind.i64) Ty.unit))) x0)), (6, PV.a (Atom.val (Value.int IntKind.i64 (↑(List.length x0) : Int)))), (7, PV.a (Atom.val (Value.int IntKind.i64 v7)))]
def L29_2 (v7 : Int) (x0 : List (Int × Int × Int × Unit)) : Heap := []
mutual
def R29 : Nat → List (Int × Int × Int × Unit) → List Dyn → Prop
  | 0, _, _ => False
  | n + 1, x0, ds => (R29_2 n (0) (x0) ds)
def R29_2 : Nat → Int → List (Int × Int × Int × Unit) → List Dyn → Prop
  | 0, _, _, _ => False
  | n + 1, v7, x0, ds => (if (Decidable.decide (v7 < (↑(List.length x0) : Int))) = true then ((0 ≤ v7) ∧ (v7 < (↑(List.length x0) : Int)) ∧ (if (!g44_0 (List.getD x0 (Int.toNat v7) (0, 0, 0, ()))) = true then (ds = [Dyn.mk Ty.bool Bool.false]) else (if (Decidable.decide (v7 > 0)) = true then ((InR IntKind.i64 (v7 - 1)) ∧ ((0 ≤ v7 - 1) ∧ (v7 - 1 < (↑(List.length x0) : Int)) ∧ (if (Decidable.decide (Prod.fst (List.getD x0 (Int.toNat v7) (0, 0, 0, ())) ≤ Prod.fst (List.getD x0 (Int.toNat (v7 - 1)) (0, 0, 0, ())))) = true then (ds = [Dyn.mk Ty.bool Bool.false]) else ((InR IntKind.i64 (v7 - 1)) ∧ ((0 ≤ v7 - 1) ∧ (v7 - 1 < (↑(List.length x0) : Int)) ∧ (if (Decidable.decide (Prod.fst (Prod.snd (List.getD x0 (Int.toNat v7) (0, 0, 0, ()))) < Prod.fst (Prod.snd (List.getD x0 (Int.toNat (v7 - 1)) (0, 0, 0, ()))))) = true then (ds = [Dyn.mk Ty.bool Bool.false]) else ((InR IntKind.i64 (v7 - 1)) ∧ ((0 ≤ v7 - 1) ∧ (v7 - 1 < (↑(List.length x0) : Int)) ∧ (if (Decidable.decide (Prod.fst (Prod.snd (Prod.snd (List.getD x0 (Int.toNat v7) (0, 0, 0, ())))) < Prod.fst (Prod.snd (Prod.snd (List.getD x0 (Int.toNat (v7 - 1)) (0, 0, 0, ())))))) = true then (ds = [Dyn.mk Ty.bool Bool.false]) else ((InR IntKind.i64 (v7 + 1)) ∧ (R29_2 n (v7 + 1) (x0) ds))))))))))) else ((InR IntKind.i64 (v7 + 1)) ∧ (R29_2 n (v7 + 1) (x0) ds))))) else (ds = [Dyn.mk Ty.bool Bool.true]))
end
theorem p29_0 (x0 : List (Int × Int × Int × Unit)) : Am.runN tab ext29 false 51 [] 2000 [] [] [0, 5, 6, 7] [] [] [.code b29] (entE 0 0 sig29 (x0, ())) (entL sig29 (x0, ())) = some (cutAt b29 2, E29_2 (0) (x0), L29_2 (0) (x0), []) := by kernel_rfl
theorem p29_1 (v7 : Int) (x0 : List (Int × Int × Int × Unit)) : runF tab ext29 false 51 [] 2000 [] oks29 kds29 tys29 Tryz.f29.results [true, true] (cutAt b29 2) (E29_2 v7 x0) (L29_2 v7 x0) = some ([Dyn.mk Ty.bool Bool.false], [], [Decidable.decide (v7 < (↑(List.length x0) : Int)) = Bool.true, 0 ≤ v7, v7 < (↑(List.length x0) : Int), True, (!g44_0 (List.getD x0 (Int.toNat v7) (0, 0, 0, ()))) = Bool.true]) := by kernel_rfl
theorem p29_2 (v7 : Int) (x0 : List (Int × Int × Int × Unit)) : runF tab ext29 false 51 [] 2000 [] oks29 kds29 tys29 Tryz.f29.results [true, false, true, true, true, true] (cutAt b29 2) (E29_2 v7 x0) (L29_2 v7 x0) = some ([Dyn.mk Ty.bool Bool.false], [], [Decidable.decide (v7 < (↑(List.length x0) : Int)) = Bool.true, 0 ≤ v7, v7 < (↑(List.length x0) : Int), True, (!g44_0 (List.getD x0 (Int.toNat v7) (0, 0, 0, ()))) = Bool.false, Decidable.decide (v7 > 0) = Bool.true, InR IntKind.i64 (v7 - 1), 0 ≤ v7 - 1, v7 - 1 < (↑(List.length x0) : Int), Decidable.decide (Prod.fst (List.getD x0 (Int.toNat v7) (0, 0, 0, ())) ≤ Prod.fst (List.getD x0 (Int.toNat (v7 - 1)) (0, 0, 0, ()))) = Bool.true, Bool.true = Bool.true, Bool.true = Bool.true]) := by kernel_rfl
theorem p29_3 (v7 : Int) (x0 : List (Int × Int × Int × Unit)) : runF tab ext29 false 51 [] 2000 [] oks29 kds29 tys29 Tryz.f29.results [true, false, true, false, true, true] (cutAt b29 2) (E29_2 v7 x0) (L29_2 v7 x0) = some ([Dyn.mk Ty.bool Bool.false], [], [Decidable.decide (v7 < (↑(List.length x0) : Int)) = Bool.true, 0 ≤ v7, v7 < (↑(List.length x0) : Int), True, (!g44_0 (List.getD x0 (Int.toNat v7) (0, 0, 0, ()))) = Bool.false, Decidable.decide (v7 > 0) = Bool.true, InR IntKind.i64 (v7 - 1), 0 ≤ v7 - 1, v7 - 1 < (↑(List.length x0) : Int), Decidable.decide (Prod.fst (List.getD x0 (Int.toNat v7) (0, 0, 0, ())) ≤ Prod.fst (List.getD x0 (Int.toNat (v7 - 1)) (0, 0, 0, ()))) = Bool.false, InR IntKind.i64 (v7 - 1), 0 ≤ v7 - 1, v7 - 1 < (↑(List.length x0) : Int), Decidable.decide (Prod.fst (Prod.snd (List.getD x0 (Int.toNat v7) (0, 0, 0, ()))) < Prod.fst (Prod.snd (List.getD x0 (Int.toNat (v7 - 1)) (0, 0, 0, ())))) = Bool.true, Bool.true = Bool.true]) := by kernel_rfl
theorem p29_4 (v7 : Int) (x0 : List (Int × Int × Int × Unit)) : runF tab ext29 false 51 [] 2000 [] oks29 kds29 tys29 Tryz.f29.results [true, false, true, false, false, true] (cutAt b29 2) (E29_2 v7 x0) (L29_2 v7 x0) = some ([Dyn.mk Ty.bool Bool.false], [], [Decidable.decide (v7 < (↑(List.length x0) : Int)) = Bool.true, 0 ≤ v7, v7 < (↑(List.length x0) : Int), True, (!g44_0 (List.getD x0 (Int.toNat v7) (0, 0, 0, ()))) = Bool.false, Decidable.decide (v7 > 0) = Bool.true, InR IntKind.i64 (v7 - 1), 0 ≤ v7 - 1, v7 - 1 < (↑(List.length x0) : Int), Decidable.decide (Prod.fst (List.getD x0 (Int.toNat v7) (0, 0, 0, ())) ≤ Prod.fst (List.getD x0 (Int.toNat (v7 - 1)) (0, 0, 0, ()))) = Bool.false, InR IntKind.i64 (v7 - 1), 0 ≤ v7 - 1, v7 - 1 < (↑(List.length x0) : Int), Decidable.decide (Prod.fst (Prod.snd (List.getD x0 (Int.toNat v7) (0, 0, 0, ()))) < Prod.fst (Prod.snd (List.getD x0 (Int.toNat (v7 - 1)) (0, 0, 0, ())))) = Bool.false, InR IntKind.i64 (v7 - 1), 0 ≤ v7 - 1, v7 - 1 < (↑(List.length x0) : Int), Decidable.decide (Prod.fst (Prod.snd (Prod.snd (List.getD x0 (Int.toNat v7) (0, 0, 0, ())))) < Prod.fst (Prod.snd (Prod.snd (List.getD x0 (Int.toNat (v7 - 1)) (0, 0, 0, ()))))) = Bool.true]) := by kernel_rfl
theorem p29_5 (v7 : Int) (x0 : List (Int × Int × Int × Unit)) : Am.runN tab ext29 false 51 [] 2000 [] [] [0, 5, 6, 7] [] [true, false, true, false, false, false] (cutAt b29 2) (E29_2 v7 x0) (L29_2 v7 x0) = some (cutAt b29 2, E29_2 (v7 + 1) (x0), L29_2 (v7 + 1) (x0), [Decidable.decide (v7 < (↑(List.length x0) : Int)) = Bool.true, 0 ≤ v7, v7 < (↑(List.length x0) : Int), True, (!g44_0 (List.getD x0 (Int.toNat v7) (0, 0, 0, ()))) = Bool.false, Decidable.decide (v7 > 0) = Bool.true, InR IntKind.i64 (v7 - 1), 0 ≤ v7 - 1, v7 - 1 < (↑(List.length x0) : Int), Decidable.decide (Prod.fst (List.getD x0 (Int.toNat v7) (0, 0, 0, ())) ≤ Prod.fst (List.getD x0 (Int.toNat (v7 - 1)) (0, 0, 0, ()))) = Bool.false, InR IntKind.i64 (v7 - 1), 0 ≤ v7 - 1, v7 - 1 < (↑(List.length x0) : Int), Decidable.decide (Prod.fst (Prod.snd (List.getD x0 (Int.toNat v7) (0, 0, 0, ()))) < Prod.fst (Prod.snd (List.getD x0 (Int.toNat (v7 - 1)) (0, 0, 0, ())))) = Bool.false, InR IntKind.i64 (v7 - 1), 0 ≤ v7 - 1, v7 - 1 < (↑(List.length x0) : Int), Decidable.decide (Prod.fst (Prod.snd (Prod.snd (List.getD x0 (Int.toNat v7) (0, 0, 0, ())))) < Prod.fst (Prod.snd (Prod.snd (List.getD x0 (Int.toNat (v7 - 1)) (0, 0, 0, ()))))) = Bool.false, InR IntKind.i64 (v7 + 1)]) := by kernel_rfl
theorem p29_6 (v7 : Int) (x0 : List (Int × Int × Int × Unit)) : Am.runN tab ext29 false 51 [] 2000 [] [] [0, 5, 6, 7] [] [true, false, false, false] (cutAt b29 2) (E29_2 v7 x0) (L29_2 v7 x0) = some (cutAt b29 2, E29_2 (v7 + 1) (x0), L29_2 (v7 + 1) (x0), [Decidable.decide (v7 < (↑(List.length x0) : Int)) = Bool.true, 0 ≤ v7, v7 < (↑(List.length x0) : Int), True, (!g44_0 (List.getD x0 (Int.toNat v7) (0, 0, 0, ()))) = Bool.false, Decidable.decide (v7 > 0) = Bool.false, Bool.false = Bool.false, InR IntKind.i64 (v7 + 1)]) := by kernel_rfl
theorem p29_7 (v7 : Int) (x0 : List (Int × Int × Int × Unit)) : runF tab ext29 false 51 [] 2000 [] oks29 kds29 tys29 Tryz.f29.results [false] (cutAt b29 2) (E29_2 v7 x0) (L29_2 v7 x0) = some ([Dyn.mk Ty.bool Bool.true], [], [Decidable.decide (v7 < (↑(List.length x0) : Int)) = Bool.false]) := by kernel_rfl
theorem snd29 : ∀ n, (∀ (x0 : List (Int × Int × Int × Unit)) ds, R29 n x0 ds → ∀ K q, AtV Tryz.prog 29 (PostR kds29 oks29 ds [] [] q K) 51 K q [] [.code b29] (entE 0 0 sig29 (x0, ())) (entL sig29 (x0, ()))) ∧ (∀ (v7 : Int) (x0 : List (Int × Int × Int × Unit)) ds, R29_2 n v7 x0 ds → ∀ K q, AtV Tryz.prog 29 (PostR kds29 oks29 ds [] [] q K) 51 K q [] (cutAt b29 2) (E29_2 v7 x0) (L29_2 v7 x0)) := by
  intro n
  induction n with
  | zero => exact ⟨fun _ _ h => by simp only [R29] at h, fun _ _ _ h => by simp only [R29_2] at h⟩
  | succ n ih =>
  obtain ⟨ih, ih2⟩ := ih
  refine ⟨?_, ?_⟩
  · intro x0 ds h K q
    rw [R29] at h
    exact AtV.runN tabOk ext29Ok mixed (p29_0 x0) trivial (ih2 _ _ _ h K q)

  · intro v7 x0 ds h K q
    rw [R29_2] at h
    by_cases b0 : (Decidable.decide (v7 < (↑(List.length x0) : Int))) = true
    · rw [if_pos b0] at h
      obtain ⟨s0, s1, h⟩ := h
      by_cases b1 : (!g44_0 (List.getD x0 (Int.toNat v7) (0, 0, 0, ()))) = true
      · rw [if_pos b1] at h
        subst h
        exact AtV.fin Tryz.func29 tabOk ext29Ok mixed (p29_1 v7 x0) ⟨b0, s0, s1, trivial, b1, trivial⟩
      · rw [if_neg b1] at h
        replace b1 := Bool.eq_false_iff.2 b1
        by_cases b2 : (Decidable.decide (v7 > 0)) = true
        · rw [if_pos b2] at h
          obtain ⟨s2, h⟩ := h
          obtain ⟨s3, s4, h⟩ := h
          by_cases b3 : (Decidable.decide (Prod.fst (List.getD x0 (Int.toNat v7) (0, 0, 0, ())) ≤ Prod.fst (List.getD x0 (Int.toNat (v7 - 1)) (0, 0, 0, ())))) = true
          · rw [if_pos b3] at h
            subst h
            exact AtV.fin Tryz.func29 tabOk ext29Ok mixed (p29_2 v7 x0) ⟨b0, s0, s1, trivial, b1, b2, s2, s3, s4, b3, rfl, rfl, trivial⟩
          · rw [if_neg b3] at h
            replace b3 := Bool.eq_false_iff.2 b3
            obtain ⟨s5, h⟩ := h
            obtain ⟨s6, s7, h⟩ := h
            by_cases b4 : (Decidable.decide (Prod.fst (Prod.snd (List.getD x0 (Int.toNat v7) (0, 0, 0, ()))) < Prod.fst (Prod.snd (List.getD x0 (Int.toNat (v7 - 1)) (0, 0, 0, ()))))) = true
            · rw [if_pos b4] at h
              subst h
              exact AtV.fin Tryz.func29 tabOk ext29Ok mixed (p29_3 v7 x0) ⟨b0, s0, s1, trivial, b1, b2, s2, s3, s4, b3, s5, s6, s7, b4, rfl, trivial⟩
            · rw [if_neg b4] at h
              replace b4 := Bool.eq_false_iff.2 b4
              obtain ⟨s8, h⟩ := h
              obtain ⟨s9, s10, h⟩ := h
              by_cases b5 : (Decidable.decide (Prod.fst (Prod.snd (Prod.snd (List.getD x0 (Int.toNat v7) (0, 0, 0, ())))) < Prod.fst (Prod.snd (Prod.snd (List.getD x0 (Int.toNat (v7 - 1)) (0, 0, 0, ())))))) = true
              · rw [if_pos b5] at h
                subst h
                exact AtV.fin Tryz.func29 tabOk ext29Ok mixed (p29_4 v7 x0) ⟨b0, s0, s1, trivial, b1, b2, s2, s3, s4, b3, s5, s6, s7, b4, s8, s9, s10, b5, trivial⟩
              · rw [if_neg b5] at h
                replace b5 := Bool.eq_false_iff.2 b5
                obtain ⟨s11, h⟩ := h
                exact AtV.runN tabOk ext29Ok mixed (p29_5 v7 x0) ⟨b0, s0, s1, trivial, b1, b2, s2, s3, s4, b3, s5, s6, s7, b4, s8, s9, s10, b5, s11, trivial⟩ (ih2 _ _ _ h K q)
        · rw [if_neg b2] at h
          replace b2 := Bool.eq_false_iff.2 b2
          obtain ⟨s2, h⟩ := h
          exact AtV.runN tabOk ext29Ok mixed (p29_6 v7 x0) ⟨b0, s0, s1, trivial, b1, b2, rfl, s2, trivial⟩ (ih2 _ _ _ h K q)
    · rw [if_neg b0] at h
      replace b0 := Bool.eq_false_iff.2 b0
      subst h
      exact AtV.fin Tryz.func29 tabOk ext29Ok mixed (p29_7 v7 x0) ⟨b0, trivial⟩



def ord29 (y x : (Int × Int × Int × Unit)) : Bool := decide (y.1 < x.1) && decide (y.2.1 ≤ x.2.1) && decide (y.2.2.1 ≤ x.2.2.1)
def ok29 (x0 : List (Int × Int × Int × Unit)) (i : Nat) (x : (Int × Int × Int × Unit)) : Bool := g44_0 x && (i == 0 || ord29 (x0.getD (i - 1) ((0 : Int), (0 : Int), (0 : Int), ())) x)
def g29_0 (x0 : List (Int × Int × Int × Unit)) : Bool := allI (ok29 x0) 0 x0
def P29 (x0 : List (Int × Int × Int × Unit)) : Prop := True

theorem step29 (n i : Nat) (x0 : List (Int × Int × Int × Unit)) (hm : x0.length ≤ maxLen) (hi : i < x0.length) (ds : List Dyn)
    (h : if ok29 x0 i (x0.getD i ((0 : Int), (0 : Int), (0 : Int), ())) = true then R29_2 n ((i : Int) + 1) x0 ds else ds = [⟨.bool, false⟩]) : R29_2 (n + 1) (i : Int) x0 ds := by
  have hu := inR_up hm hi
  have hmx : maxLen ≤ 9223372036854775807 := by decide
  rw [R29_2, if_pos (by simp; omega)]
  refine ⟨by omega, by omega, ?_⟩
  simp only [Int.toNat_natCast]
  unfold ok29 ord29 at h
  by_cases hv : g44_0 (x0.getD i ((0 : Int), (0 : Int), (0 : Int), ())) = true
  case neg => rw [Bool.eq_false_iff.2 hv] at h; rw [if_pos (by rw [Bool.eq_false_iff.2 hv]; rfl)]; simpa using h
  rw [if_neg (by rw [hv]; simp)]
  rw [hv] at h
  by_cases h0 : (i : Int) > 0
  case neg =>
    rw [if_neg (by simpa using h0)]
    have hi0 : (i == 0) = true := by simp; omega
    rw [hi0] at h
    exact ⟨hu, by simpa using h⟩
  rw [if_pos (by simpa using h0)]
  have hi0 : (i == 0) = false := by simp; omega
  have e : ((i : Int) - 1).toNat = i - 1 := by omega
  have hd : InR .i64 ((i : Int) - 1) := by rw [i64_iff]; omega
  rw [hi0] at h
  simp only [e]
  refine ⟨hd, by omega, by omega, ?_⟩
  by_cases c0 : (x0.getD i ((0 : Int), (0 : Int), (0 : Int), ())).1 ≤ (x0.getD (i - 1) ((0 : Int), (0 : Int), (0 : Int), ())).1
  case pos =>
    rw [if_pos (decide_eq_true c0)]
    have : decide ((x0.getD (i - 1) ((0 : Int), (0 : Int), (0 : Int), ())).1 < (x0.getD i ((0 : Int), (0 : Int), (0 : Int), ())).1) = false := decide_eq_false (by omega)
    rw [this] at h
    simpa using h
  rw [if_neg (by simpa using c0)]
  refine ⟨hd, by omega, by omega, ?_⟩
  by_cases c1 : (x0.getD i ((0 : Int), (0 : Int), (0 : Int), ())).2.1 < (x0.getD (i - 1) ((0 : Int), (0 : Int), (0 : Int), ())).2.1
  case pos =>
    rw [if_pos (decide_eq_true c1)]
    have : decide ((x0.getD (i - 1) ((0 : Int), (0 : Int), (0 : Int), ())).2.1 ≤ (x0.getD i ((0 : Int), (0 : Int), (0 : Int), ())).2.1) = false := decide_eq_false (by omega)
    rw [this] at h
    simpa using h
  rw [if_neg (by simpa using c1)]
  refine ⟨hd, by omega, by omega, ?_⟩
  by_cases c2 : (x0.getD i ((0 : Int), (0 : Int), (0 : Int), ())).2.2.1 < (x0.getD (i - 1) ((0 : Int), (0 : Int), (0 : Int), ())).2.2.1
  case pos =>
    rw [if_pos (decide_eq_true c2)]
    have : decide ((x0.getD (i - 1) ((0 : Int), (0 : Int), (0 : Int), ())).2.2.1 ≤ (x0.getD i ((0 : Int), (0 : Int), (0 : Int), ())).2.2.1) = false := decide_eq_false (by omega)
    rw [this] at h
    simpa using h
  rw [if_neg (by simpa using c2)]
  have d0 : decide ((x0.getD (i - 1) ((0 : Int), (0 : Int), (0 : Int), ())).1 < (x0.getD i ((0 : Int), (0 : Int), (0 : Int), ())).1) = true := decide_eq_true (by omega)
  have d1 : decide ((x0.getD (i - 1) ((0 : Int), (0 : Int), (0 : Int), ())).2.1 ≤ (x0.getD i ((0 : Int), (0 : Int), (0 : Int), ())).2.1) = true := decide_eq_true (by omega)
  have d2 : decide ((x0.getD (i - 1) ((0 : Int), (0 : Int), (0 : Int), ())).2.2.1 ≤ (x0.getD i ((0 : Int), (0 : Int), (0 : Int), ())).2.2.1) = true := decide_eq_true (by omega)
  rw [d0, d1, d2] at h
  exact ⟨hu, by simpa using h⟩

theorem top29 (x0 : List (Int × Int × Int × Unit)) (hw : x0.length ≤ maxLen) : R29 (x0.length + 1 + 1) x0 [⟨.bool, g29_0 x0⟩] := by
  rw [R29]
  have key := loop_testI x0 ((0 : Int), (0 : Int), (0 : Int), ()) (ok29 x0) [(⟨.bool, false⟩ : Dyn)] [⟨.bool, true⟩] (fun n i ds => R29_2 n i x0 ds) (fun n => ?_) (fun n i hi hok ds hr => ?_) (fun n i hi hok => ?_)
  · unfold g29_0
    cases h : allI (ok29 x0) 0 x0 with
    | true => rw [if_pos h] at key; simpa using key
    | false => rw [if_neg (by rw [h]; simp)] at key; simpa using key
  · rw [R29_2, if_neg (by simp)]
  · exact step29 n i x0 hw hi ds (by rw [if_pos hok]; exact hr)
  · exact step29 n i x0 hw hi _ (by rw [if_neg (by rw [hok]; simp)])

def S29 : Am.Spec := { sig := sig29, pre := fun ⟨x0, _⟩ => P29 x0, res := fun ⟨x0, _⟩ => [⟨Ty.bool, g29_0 x0⟩] }
theorem con29 : Contract Tryz.prog 29 S29 := contract_of Tryz.func29 hb29 (Nat.le_of_ble_eq_true (by kernel_rfl)) (fun ⟨x0, _⟩ h hwf K q =>
  (snd29 _).1 x0 _ (top29 x0 hwf.1.1) K q)

end
end Go.Proofs.YtpoajfdfmiafnaaGreatDoor

/- Function 19 (impl.ValidTests): its runs between cut points. Written by a program of this repo (gen). -/
set_option linter.unusedVariables false
set_option linter.unusedSimpArgs false
set_option maxRecDepth 100000
namespace Go.Proofs.YtpoajfdfmiafnaaGreatDoor
open Go Go.Am Go.Proofs
noncomputable section
def ext19 : Ext := [(29, S29)]
theorem call19_29 : Callable Tryz.prog 29 := ⟨Tryz.f29, Tryz.func29, by kernel_rfl, by kernel_rfl⟩
theorem ext19Ok : ExtOk Tryz.prog ext19 := ⟨⟨call19_29, con29⟩, trivial⟩

noncomputable def b19 : Code := bodyOf Tryz.f19
theorem hb19 : Tryz.f19.body = some b19 := by kernel_rfl
def sig19 : List AT := [AT.v (Ty.sl (Ty.cons (Ty.int IntKind.i64) (Ty.cons (Ty.int IntKind.i64) (Ty.cons (Ty.int IntKind.i64) Ty.unit))))]
def tys19 : List Ty := [Ty.bool]
def kds19 : List RK := []
def oks19 : List AT := owns sig19
def P19 (x0 : List (Int × Int × Int × Unit)) : Prop := True
def g19_0 (x0 : List (Int × Int × Int × Unit)) : Bool := (if (g29_0 x0) = true then Decidable.decide ((↑(List.length x0) : Int) ≤ 24) else Bool.false)
theorem p19_0 (x0 : List (Int × Int × Int × Unit)) : runF tab ext19 false 10 [] 2000 [] oks19 kds19 tys19 Tryz.f19.results [true] [.code b19] (entE 0 0 sig19 (x0, ())) (entL sig19 (x0, ())) = some ([Dyn.mk Ty.bool (Decidable.decide ((↑(List.length x0) : Int) ≤ 24))], [], [True, g29_0 x0 = Bool.true]) := by kernel_rfl
theorem p19_1 (x0 : List (Int × Int × Int × Unit)) : runF tab ext19 false 10 [] 2000 [] oks19 kds19 tys19 Tryz.f19.results [false] [.code b19] (entE 0 0 sig19 (x0, ())) (entL sig19 (x0, ())) = some ([Dyn.mk Ty.bool Bool.false], [], [True, g29_0 x0 = Bool.false]) := by kernel_rfl
theorem at19 (x0 : List (Int × Int × Int × Unit)) (h : P19 x0) (K : Ctx) (q : Nat → Value) : AtV Tryz.prog 19 (PostR kds19 oks19 [⟨Ty.bool, g19_0 x0⟩] [] [] q K) 10 K q [] [.code b19] (entE 0 0 sig19 (x0, ())) (entL sig19 (x0, ())) := by
  unfold P19 at h
  unfold g19_0
  by_cases b0 : (g29_0 x0) = true
  · try simp only [if_pos b0] at h ⊢
    exact AtV.fin Tryz.func19 tabOk ext19Ok mixed (p19_0 x0) ⟨trivial, b0, trivial⟩
  · try simp only [if_neg b0] at h ⊢
    replace b0 := Bool.eq_false_iff.2 b0
    exact AtV.fin Tryz.func19 tabOk ext19Ok mixed (p19_1 x0) ⟨trivial, b0, trivial⟩

def S19 : Am.Spec := { sig := sig19, pre := fun ⟨x0, _⟩ => P19 x0, res := fun ⟨x0, _⟩ => [⟨Ty.bool, g19_0 x0⟩], kds := kds19 }
theorem con19 : Contract Tryz.prog 19 S19 := contract_of Tryz.func19 hb19 (Nat.le_of_ble_eq_true (by kernel_rfl)) (fun ⟨x0, _⟩ h _ K q => at19 x0 h K q)


end
end Go.Proofs.YtpoajfdfmiafnaaGreatDoor

/- Function 68 (impl.monthLength): its runs between cut points. Written by a program of this repo (gen). -/
set_option linter.unusedVariables false
set_option linter.unusedSimpArgs false
set_option maxRecDepth 100000
namespace Go.Proofs.YtpoajfdfmiafnaaGreatDoor
open Go Go.Am Go.Proofs
noncomputable section
def ext68 : Ext := []
theorem ext68Ok : ExtOk Tryz.prog ext68 := trivial

noncomputable def b68 : Code := bodyOf Tryz.f68
theorem hb68 : Tryz.f68.body = some b68 := by kernel_rfl
def sig68 : List AT := [AT.v (Ty.int IntKind.i64), AT.v (Ty.int IntKind.i64)]
def tys68 : List Ty := [Ty.int IntKind.i64]
def kds68 : List RK := []
def oks68 : List AT := owns sig68
def P68 (x0 : Int) (x1 : Int) : Prop := (if (x1 == 2) = true then ((InR IntKind.i64 (Int.tmod x0 4)) ∧ True) else True)
def g68_0 (x0 : Int) (x1 : Int) : Int := (if (x1 == 2) = true then (if (Int.tmod x0 4 == 0) = true then 29 else 28) else (if (x1 == 4) = true then 30 else (if (x1 == 6) = true then 30 else (if (x1 == 9) = true then 30 else (if (x1 == 11) = true then 30 else 31)))))
theorem p68_0 (x0 : Int) (x1 : Int) : runF tab ext68 false 16 [] 2000 [] oks68 kds68 tys68 Tryz.f68.results [true, true] [.code b68] (entE 0 0 sig68 (x0, x1, ())) (entL sig68 (x0, x1, ())) = some ([Dyn.mk (Ty.int IntKind.i64) 29], [], [(x1 == 2) = Bool.true, (4 : Int) ≠ (0 : Int), InR IntKind.i64 (Int.tmod x0 4), (Int.tmod x0 4 == 0) = Bool.true]) := by kernel_rfl
theorem p68_1 (x0 : Int) (x1 : Int) : runF tab ext68 false 16 [] 2000 [] oks68 kds68 tys68 Tryz.f68.results [true, false] [.code b68] (entE 0 0 sig68 (x0, x1, ())) (entL sig68 (x0, x1, ())) = some ([Dyn.mk (Ty.int IntKind.i64) 28], [], [(x1 == 2) = Bool.true, (4 : Int) ≠ (0 : Int), InR IntKind.i64 (Int.tmod x0 4), (Int.tmod x0 4 == 0) = Bool.false]) := by kernel_rfl
theorem p68_2 (x0 : Int) (x1 : Int) : runF tab ext68 false 16 [] 2000 [] oks68 kds68 tys68 Tryz.f68.results [false, true] [.code b68] (entE 0 0 sig68 (x0, x1, ())) (entL sig68 (x0, x1, ())) = some ([Dyn.mk (Ty.int IntKind.i64) 30], [], [(x1 == 2) = Bool.false, (x1 == 4) = Bool.true]) := by kernel_rfl
theorem p68_3 (x0 : Int) (x1 : Int) : runF tab ext68 false 16 [] 2000 [] oks68 kds68 tys68 Tryz.f68.results [false, false, true] [.code b68] (entE 0 0 sig68 (x0, x1, ())) (entL sig68 (x0, x1, ())) = some ([Dyn.mk (Ty.int IntKind.i64) 30], [], [(x1 == 2) = Bool.false, (x1 == 4) = Bool.false, (x1 == 6) = Bool.true]) := by kernel_rfl
theorem p68_4 (x0 : Int) (x1 : Int) : runF tab ext68 false 16 [] 2000 [] oks68 kds68 tys68 Tryz.f68.results [false, false, false, true] [.code b68] (entE 0 0 sig68 (x0, x1, ())) (entL sig68 (x0, x1, ())) = some ([Dyn.mk (Ty.int IntKind.i64) 30], [], [(x1 == 2) = Bool.false, (x1 == 4) = Bool.false, (x1 == 6) = Bool.false, (x1 == 9) = Bool.true]) := by kernel_rfl
theorem p68_5 (x0 : Int) (x1 : Int) : runF tab ext68 false 16 [] 2000 [] oks68 kds68 tys68 Tryz.f68.results [false, false, false, false, true] [.code b68] (entE 0 0 sig68 (x0, x1, ())) (entL sig68 (x0, x1, ())) = some ([Dyn.mk (Ty.int IntKind.i64) 30], [], [(x1 == 2) = Bool.false, (x1 == 4) = Bool.false, (x1 == 6) = Bool.false, (x1 == 9) = Bool.false, (x1 == 11) = Bool.true]) := by kernel_rfl
theorem p68_6 (x0 : Int) (x1 : Int) : runF tab ext68 false 16 [] 2000 [] oks68 kds68 tys68 Tryz.f68.results [false, false, false, false, false] [.code b68] (entE 0 0 sig68 (x0, x1, ())) (entL sig68 (x0, x1, ())) = some ([Dyn.mk (Ty.int IntKind.i64) 31], [], [(x1 == 2) = Bool.false, (x1 == 4) = Bool.false, (x1 == 6) = Bool.false, (x1 == 9) = Bool.false, (x1 == 11) = Bool.false]) := by kernel_rfl
theorem at68 (x0 : Int) (x1 : Int) (h : P68 x0 x1) (K : Ctx) (q : Nat → Value) : AtV Tryz.prog 68 (PostR kds68 oks68 [⟨Ty.int IntKind.i64, g68_0 x0 x1⟩] [] [] q K) 16 K q [] [.code b68] (entE 0 0 sig68 (x0, x1, ())) (entL sig68 (x0, x1, ())) := by
  unfold P68 at h
  unfold g68_0
  by_cases b0 : (x1 == 2) = true
  · try simp only [if_pos b0] at h ⊢
    obtain ⟨s0, h⟩ := h
    by_cases b1 : (Int.tmod x0 4 == 0) = true
    · try simp only [if_pos b1] at h ⊢
      exact AtV.fin Tryz.func68 tabOk ext68Ok mixed (p68_0 x0 x1) ⟨b0, (by decide), s0, b1, trivial⟩
    · try simp only [if_neg b1] at h ⊢
      replace b1 := Bool.eq_false_iff.2 b1
      exact AtV.fin Tryz.func68 tabOk ext68Ok mixed (p68_1 x0 x1) ⟨b0, (by decide), s0, b1, trivial⟩
  · try simp only [if_neg b0] at h ⊢
    replace b0 := Bool.eq_false_iff.2 b0
    by_cases b1 : (x1 == 4) = true
    · try simp only [if_pos b1] at h ⊢
      exact AtV.fin Tryz.func68 tabOk ext68Ok mixed (p68_2 x0 x1) ⟨b0, b1, trivial⟩
    · try simp only [if_neg b1] at h ⊢
      replace b1 := Bool.eq_false_iff.2 b1
      by_cases b2 : (x1 == 6) = true
      · try simp only [if_pos b2] at h ⊢
        exact AtV.fin Tryz.func68 tabOk ext68Ok mixed (p68_3 x0 x1) ⟨b0, b1, b2, trivial⟩
      · try simp only [if_neg b2] at h ⊢
        replace b2 := Bool.eq_false_iff.2 b2
        by_cases b3 : (x1 == 9) = true
        · try simp only [if_pos b3] at h ⊢
          exact AtV.fin Tryz.func68 tabOk ext68Ok mixed (p68_4 x0 x1) ⟨b0, b1, b2, b3, trivial⟩
        · try simp only [if_neg b3] at h ⊢
          replace b3 := Bool.eq_false_iff.2 b3
          by_cases b4 : (x1 == 11) = true
          · try simp only [if_pos b4] at h ⊢
            exact AtV.fin Tryz.func68 tabOk ext68Ok mixed (p68_5 x0 x1) ⟨b0, b1, b2, b3, b4, trivial⟩
          · try simp only [if_neg b4] at h ⊢
            replace b4 := Bool.eq_false_iff.2 b4
            exact AtV.fin Tryz.func68 tabOk ext68Ok mixed (p68_6 x0 x1) ⟨b0, b1, b2, b3, b4, trivial⟩

def S68 : Am.Spec := { sig := sig68, pre := fun ⟨x0, x1, _⟩ => P68 x0 x1, res := fun ⟨x0, x1, _⟩ => [⟨Ty.int IntKind.i64, g68_0 x0 x1⟩], kds := kds68 }
theorem con68 : Contract Tryz.prog 68 S68 := contract_of Tryz.func68 hb68 (Nat.le_of_ble_eq_true (by kernel_rfl)) (fun ⟨x0, x1, _⟩ h _ K q => at68 x0 x1 h K q)


end
end Go.Proofs.YtpoajfdfmiafnaaGreatDoor

/- Function 46 (impl.dayOf): its runs between cut points. Written by a program of this repo (gen). -/
set_option linter.unusedVariables false
set_option linter.unusedSimpArgs false
set_option maxRecDepth 100000
namespace Go.Proofs.YtpoajfdfmiafnaaGreatDoor
open Go Go.Am Go.Proofs
noncomputable section
def ext46 : Ext := [(68, S68)]
theorem call46_68 : Callable Tryz.prog 68 := ⟨Tryz.f68, Tryz.func68, by kernel_rfl, by kernel_rfl⟩
theorem ext46Ok : ExtOk Tryz.prog ext46 := ⟨⟨call46_68, con68⟩, trivial⟩

noncomputable def b46 : Code := bodyOf Tryz.f46
theorem hb46 : Tryz.f46.body = some b46 := by kernel_rfl
def sig46 : List AT := [AT.v (Ty.int IntKind.i64), AT.v (Ty.int IntKind.i64), AT.v (Ty.int IntKind.i64)]
def tys46 : List Ty := [Ty.int IntKind.i64]
def kds46 : List RK := []
def oks46 : List AT := owns sig46
def E46_3 (v7 : Int) (v8 : Int) (x0 : Int) (x1 : Int) : Env := [(0, PV.a (Atom.val (Value.int IntKind.i64 x0))), (1, PV.a (Atom.val (Value.int IntKind.i64 x1))), (7, PV.a (Atom.val (Value.int IntKind.i64 v7))), (8, PV.a (Atom.val (Value.int IntKind.i64 v8)))]
def L46_3 (v7 : Int) (v8 : Int) (x0 : Int) (x1 : Int) : Heap := []
mutual
def R46 : Nat → Int → Int → Int → List Dyn → Prop
  | 0, _, _, _, _ => False
  | n + 1, x0, x1, x2, ds => ((InR IntKind.i64 (x0 - 2000)) ∧ ((InR IntKind.i64 ((x0 - 2000) * 365)) ∧ ((InR IntKind.i64 (x0 - 1997)) ∧ ((InR IntKind.i64 (Int.tdiv (x0 - 1997) 4)) ∧ ((InR IntKind.i64 ((x0 - 2000) * 365 + Int.tdiv (x0 - 1997) 4)) ∧ ((InR IntKind.i64 ((x0 - 2000) * 365 + Int.tdiv (x0 - 1997) 4 + x2)) ∧ ((InR IntKind.i64 ((x0 - 2000) * 365 + Int.tdiv (x0 - 1997) 4 + x2 - 1)) ∧ (R46_3 n ((x0 - 2000) * 365 + Int.tdiv (x0 - 1997) 4 + x2 - 1) (1) (x0) (x1) ds))))))))
def R46_3 : Nat → Int → Int → Int → Int → List Dyn → Prop
  | 0, _, _, _, _, _ => False
  | n + 1, v7, v8, x0, x1, ds => (if (Decidable.decide (v8 < x1)) = true then ((P68 x0 v8) ∧ ((InR IntKind.i64 (v7 + g68_0 x0 v8)) ∧ ((InR IntKind.i64 (v8 + 1)) ∧ (R46_3 n (v7 + g68_0 x0 v8) (v8 + 1) (x0) (x1) ds)))) else (ds = [Dyn.mk (Ty.int IntKind.i64) v7]))
end
theorem p46_0 (x0 : Int) (x1 : Int) (x2 : Int) : Am.runN tab ext46 false 30 [] 2000 [] [] [0, 1, 7, 8] [] [] [.code b46] (entE 0 0 sig46 (x0, x1, x2, ())) (entL sig46 (x0, x1, x2, ())) = some (cutAt b46 3, E46_3 ((x0 - 2000) * 365 + Int.tdiv (x0 - 1997) 4 + x2 - 1) (1) (x0) (x1), L46_3 ((x0 - 2000) * 365 + Int.tdiv (x0 - 1997) 4 + x2 - 1) (1) (x0) (x1), [InR IntKind.i64 (x0 - 2000), InR IntKind.i64 ((x0 - 2000) * 365), InR IntKind.i64 (x0 - 1997), (4 : Int) ≠ (0 : Int), InR IntKind.i64 (Int.tdiv (x0 - 1997) 4), InR IntKind.i64 ((x0 - 2000) * 365 + Int.tdiv (x0 - 1997) 4), InR IntKind.i64 ((x0 - 2000) * 365 + Int.tdiv (x0 - 1997) 4 + x2), InR IntKind.i64 ((x0 - 2000) * 365 + Int.tdiv (x0 - 1997) 4 + x2 - 1)]) := by kernel_rfl
theorem p46_1 (v7 : Int) (v8 : Int) (x0 : Int) (x1 : Int) : Am.runN tab ext46 false 30 [] 2000 [] [] [0, 1, 7, 8] [] [true] (cutAt b46 3) (E46_3 v7 v8 x0 x1) (L46_3 v7 v8 x0 x1) = some (cutAt b46 3, E46_3 (v7 + g68_0 x0 v8) (v8 + 1) (x0) (x1), L46_3 (v7 + g68_0 x0 v8) (v8 + 1) (x0) (x1), [Decidable.decide (v8 < x1) = Bool.true, P68 x0 v8, InR IntKind.i64 (v7 + g68_0 x0 v8), InR IntKind.i64 (v8 + 1)]) := by kernel_rfl
theorem p46_2 (v7 : Int) (v8 : Int) (x0 : Int) (x1 : Int) : runF tab ext46 false 30 [] 2000 [] oks46 kds46 tys46 Tryz.f46.results [false] (cutAt b46 3) (E46_3 v7 v8 x0 x1) (L46_3 v7 v8 x0 x1) = some ([Dyn.mk (Ty.int IntKind.i64) v7], [], [Decidable.decide (v8 < x1) = Bool.false]) := by kernel_rfl
theorem snd46 : ∀ n, (∀ (x0 : Int) (x1 : Int) (x2 : Int) ds, R46 n x0 x1 x2 ds → ∀ K q, AtV Tryz.prog 46 (PostR kds46 oks46 ds [] [] q K) 30 K q [] [.code b46] (entE 0 0 sig46 (x0, x1, x2, ())) (entL sig46 (x0, x1, x2, ()))) ∧ (∀ (v7 : Int) (v8 : Int) (x0 : Int) (x1 : Int) ds, R46_3 n v7 v8 x0 x1 ds → ∀ K q, AtV Tryz.prog 46 (PostR kds46 oks46 ds [] [] q K) 30 K q [] (cutAt b46 3) (E46_3 v7 v8 x0 x1) (L46_3 v7 v8 x0 x1)) := by
  intro n
  induction n with
  | zero => exact ⟨fun _ _ _ _ h => by simp only [R46] at h, fun _ _ _ _ _ h => by simp only [R46_3] at h⟩
  | succ n ih =>
  obtain ⟨ih, ih3⟩ := ih
  refine ⟨?_, ?_⟩
  · intro x0 x1 x2 ds h K q
    rw [R46] at h
    obtain ⟨s0, h⟩ := h
    obtain ⟨s1, h⟩ := h
    obtain ⟨s2, h⟩ := h
    obtain ⟨s3, h⟩ := h
    obtain ⟨s4, h⟩ := h
    obtain ⟨s5, h⟩ := h
    obtain ⟨s6, h⟩ := h
    exact AtV.runN tabOk ext46Ok mixed (p46_0 x0 x1 x2) ⟨s0, s1, s2, (by decide), s3, s4, s5, s6, trivial⟩ (ih3 _ _ _ _ _ h K q)

  · intro v7 v8 x0 x1 ds h K q
    rw [R46_3] at h
    by_cases b0 : (Decidable.decide (v8 < x1)) = true
    · rw [if_pos b0] at h
      obtain ⟨s0, h⟩ := h
      obtain ⟨s1, h⟩ := h
      obtain ⟨s2, h⟩ := h
      exact AtV.runN tabOk ext46Ok mixed (p46_1 v7 v8 x0 x1) ⟨b0, s0, s1, s2, trivial⟩ (ih3 _ _ _ _ _ h K q)
    · rw [if_neg b0] at h
      replace b0 := Bool.eq_false_iff.2 b0
      subst h
      exact AtV.fin Tryz.func46 tabOk ext46Ok mixed (p46_2 v7 v8 x0 x1) ⟨b0, trivial⟩



def ms46 (y : Int) : Nat → Int
  | 0 => 0
  | k + 1 => ms46 y k + g68_0 y ((k : Int) + 1)
def bs46 (y d : Int) : Int := (y - 2000) * 365 + Int.tdiv (y - 1997) 4 + d - 1
def g46_0 (x0 x1 x2 : Int) : Int := bs46 x0 x2 + ms46 x0 (x1 - 1).toNat
def P46 (x0 x1 x2 : Int) : Prop := (2000 ≤ x0 ∧ x0 ≤ 2099) ∧ (1 ≤ x1 ∧ x1 ≤ 12) ∧ (1 ≤ x2 ∧ x2 ≤ 31)

theorem len46 {y m : Int} (hy : 2000 ≤ y ∧ y ≤ 2099) : P68 y m ∧ 28 ≤ g68_0 y m ∧ g68_0 y m ≤ 31 := by
  have e : Int.tmod y 4 = y % 4 := Int.tmod_eq_emod_of_nonneg (by omega)
  unfold P68 g68_0
  rw [e]
  have hi : InR .i64 (y % 4) := by rw [i64_iff]; omega
  refine ⟨?_, ?_, ?_⟩
  · split
    · exact ⟨hi, trivial⟩
    · trivial
  · repeat' split
    all_goals omega
  · repeat' split
    all_goals omega

theorem msb46 {y : Int} (hy : 2000 ≤ y ∧ y ≤ 2099) : ∀ k, 0 ≤ ms46 y k ∧ ms46 y k ≤ 31 * k
  | 0 => by simp [ms46]
  | k + 1 => by
    have := msb46 hy k
    have := len46 hy (m := (k : Int) + 1)
    simp only [ms46]
    omega

theorem runM46 {y m : Int} (hy : 2000 ≤ y ∧ y ≤ 2099) (hm : 1 ≤ m ∧ m ≤ 12) (v : Int) (hv : 0 ≤ v ∧ v ≤ 1000000) : ∀ (k i : Nat), (i : Int) + k = m - 1 →
    R46_3 (k + 1) (v + ms46 y i) ((i : Int) + 1) y m [⟨.int .i64, v + ms46 y (m - 1).toNat⟩] := by
  intro k
  induction k with
  | zero =>
    intro i hi
    rw [R46_3, if_neg (by simp; omega), show (m - 1).toNat = i by omega]
  | succ k ih =>
    intro i hi
    obtain ⟨p, l1, l2⟩ := len46 hy (m := (i : Int) + 1)
    obtain ⟨b1, b2⟩ := msb46 hy i
    rw [R46_3, if_pos (by simp; omega)]
    have e1 : v + ms46 y i + g68_0 y ((i : Int) + 1) = v + ms46 y (i + 1) := by simp only [ms46]; omega
    have e2 : (i : Int) + 1 + 1 = ((i + 1 : Nat) : Int) + 1 := by omega
    refine ⟨p, by rw [i64_iff]; omega, by rw [i64_iff]; omega, ?_⟩
    rw [e1, e2]
    exact ih (i + 1) (by omega)

theorem top46 (x0 x1 x2 : Int) (h : P46 x0 x1 x2) : R46 ((x1 - 1).toNat + 1 + 1) x0 x1 x2 [⟨.int .i64, g46_0 x0 x1 x2⟩] := by
  obtain ⟨h0, h1, h2⟩ := h
  have e : Int.tdiv (x0 - 1997) 4 = (x0 - 1997) / 4 := Int.tdiv_eq_ediv_of_nonneg (by omega)
  rw [R46]
  have := runM46 h0 h1 (bs46 x0 x2) (by unfold bs46; rw [e]; omega) (x1 - 1).toNat 0 (by omega)
  refine ⟨by rw [i64_iff]; omega, by rw [i64_iff]; omega, by rw [i64_iff]; omega, by rw [i64_iff, e]; omega, by rw [i64_iff, e]; omega, by rw [i64_iff, e]; omega, by rw [i64_iff, e]; omega, ?_⟩
  simpa [ms46, g46_0, bs46] using this

def S46 : Am.Spec := { sig := sig46, pre := fun ⟨x0, x1, x2, _⟩ => P46 x0 x1 x2, res := fun ⟨x0, x1, x2, _⟩ => [⟨.int .i64, g46_0 x0 x1 x2⟩] }
theorem con46 : Contract Tryz.prog 46 S46 := contract_of Tryz.func46 hb46 (Nat.le_of_ble_eq_true (by kernel_rfl)) (fun ⟨x0, x1, x2, _⟩ h hwf K q =>
  (snd46 _).1 x0 x1 x2 _ (top46 x0 x1 x2 h) K q)

end
end Go.Proofs.YtpoajfdfmiafnaaGreatDoor

/- Function 31 (impl.dateOf): its runs between cut points. Written by a program of this repo (gen). -/
set_option linter.unusedVariables false
set_option linter.unusedSimpArgs false
set_option maxRecDepth 100000
namespace Go.Proofs.YtpoajfdfmiafnaaGreatDoor
open Go Go.Am Go.Proofs
noncomputable section
def ext31 : Ext := [(46, S46)]
theorem call31_46 : Callable Tryz.prog 46 := ⟨Tryz.f46, Tryz.func46, by kernel_rfl, by kernel_rfl⟩
theorem ext31Ok : ExtOk Tryz.prog ext31 := ⟨⟨call31_46, con46⟩, trivial⟩

noncomputable def b31 : Code := bodyOf Tryz.f31
theorem hb31 : Tryz.f31.body = some b31 := by kernel_rfl
def sig31 : List AT := [AT.v (Ty.int IntKind.i64)]
def tys31 : List Ty := [Ty.int IntKind.i64, Ty.int IntKind.i64, Ty.int IntKind.i64]
def kds31 : List RK := []
def oks31 : List AT := owns sig31
def E31_2 (v5 : Int) (x0 : Int) : Env := [(0, PV.a (Atom.val (Value.int IntKind.i64 x0))), (5, PV.a (Atom.val (Value.int IntKind.i64 v5))), (6, PV.a (Atom.val (Value.int IntKind.i64 1)))]
def L31_2 (v5 : Int) (x0 : Int) : Heap := []
def E31_4 (v6 : Int) (x0 : Int) (v5 : Int) : Env := [(0, PV.a (Atom.val (Value.int IntKind.i64 x0))), (5, PV.a (Atom.val (Value.int IntKind.i64 v5))), (6, PV.a (Atom.val (Value.int IntKind.i64 v6)))]
def L31_4 (v6 : Int) (x0 : Int) (v5 : Int) : Heap := []
mutual
def R31 : Nat → Int → List Dyn → Prop
  | 0, _, _ => False
  | n + 1, x0, ds => (R31_2 n (2000) (x0) ds)
def R31_2 : Nat → Int → Int → List Dyn → Prop
  | 0, _, _, _ => False
  | n + 1, v5, x0, ds => (if (Decidable.decide (v5 < 2099)) = true then ((InR IntKind.i64 (v5 + 1)) ∧ ((P46 (v5 + 1) 1 1) ∧ (if (Decidable.decide (g46_0 (v5 + 1) 1 1 ≤ x0)) = true then ((InR IntKind.i64 (v5 + 1)) ∧ (R31_2 n (v5 + 1) (x0) ds)) else (R31_4 n (1) (x0) (v5) ds)))) else (R31_4 n (1) (x0) (v5) ds))
def R31_4 : Nat → Int → Int → Int → List Dyn → Prop
  | 0, _, _, _, _ => False
  | n + 1, v6, x0, v5, ds => (if (Decidable.decide (v6 < 12)) = true then ((InR IntKind.i64 (v6 + 1)) ∧ ((P46 v5 (v6 + 1) 1) ∧ (if (Decidable.decide (g46_0 v5 (v6 + 1) 1 ≤ x0)) = true then ((InR IntKind.i64 (v6 + 1)) ∧ (R31_4 n (v6 + 1) (x0) (v5) ds)) else ((P46 v5 v6 1) ∧ ((InR IntKind.i64 (x0 - g46_0 v5 v6 1)) ∧ ((InR IntKind.i64 (x0 - g46_0 v5 v6 1 + 1)) ∧ (ds = [Dyn.mk (Ty.int IntKind.i64) v5, Dyn.mk (Ty.int IntKind.i64) v6, Dyn.mk (Ty.int IntKind.i64) (x0 - g46_0 v5 v6 1 + 1)]))))))) else ((P46 v5 v6 1) ∧ ((InR IntKind.i64 (x0 - g46_0 v5 v6 1)) ∧ ((InR IntKind.i64 (x0 - g46_0 v5 v6 1 + 1)) ∧ (ds = [Dyn.mk (Ty.int IntKind.i64) v5, Dyn.mk (Ty.int IntKind.i64) v6, Dyn.mk (Ty.int IntKind.i64) (x0 - g46_0 v5 v6 1 + 1)])))))
end
theorem p31_0 (x0 : Int) : Am.runN tab ext31 false 38 [] 2000 [] [] [0, 5, 6] [] [] [.code b31] (entE 0 0 sig31 (x0, ())) (entL sig31 (x0, ())) = some (cutAt b31 2, E31_2 (2000) (x0), L31_2 (2000) (x0), []) := by kernel_rfl
theorem p31_1 (v5 : Int) (x0 : Int) : Am.runN tab ext31 false 38 [] 2000 [] [] [0, 5, 6] [] [true, true] (cutAt b31 2) (E31_2 v5 x0) (L31_2 v5 x0) = some (cutAt b31 2, E31_2 (v5 + 1) (x0), L31_2 (v5 + 1) (x0), [Decidable.decide (v5 < 2099) = Bool.true, InR IntKind.i64 (v5 + 1), P46 (v5 + 1) 1 1, Decidable.decide (g46_0 (v5 + 1) 1 1 ≤ x0) = Bool.true, InR IntKind.i64 (v5 + 1)]) := by kernel_rfl
theorem p31_2 (v5 : Int) (x0 : Int) : Am.runN tab ext31 false 38 [] 2000 [] [] [0, 5, 6] [] [true, false] (cutAt b31 2) (E31_2 v5 x0) (L31_2 v5 x0) = some (cutAt b31 4, E31_4 (1) (x0) (v5), L31_4 (1) (x0) (v5), [Decidable.decide (v5 < 2099) = Bool.true, InR IntKind.i64 (v5 + 1), P46 (v5 + 1) 1 1, Decidable.decide (g46_0 (v5 + 1) 1 1 ≤ x0) = Bool.false]) := by kernel_rfl
theorem p31_3 (v5 : Int) (x0 : Int) : Am.runN tab ext31 false 38 [] 2000 [] [] [0, 5, 6] [] [false, false] (cutAt b31 2) (E31_2 v5 x0) (L31_2 v5 x0) = some (cutAt b31 4, E31_4 (1) (x0) (v5), L31_4 (1) (x0) (v5), [Decidable.decide (v5 < 2099) = Bool.false, Bool.false = Bool.false]) := by kernel_rfl
theorem p31_4 (v6 : Int) (x0 : Int) (v5 : Int) : Am.runN tab ext31 false 38 [] 2000 [] [] [0, 5, 6] [] [true, true] (cutAt b31 4) (E31_4 v6 x0 v5) (L31_4 v6 x0 v5) = some (cutAt b31 4, E31_4 (v6 + 1) (x0) (v5), L31_4 (v6 + 1) (x0) (v5), [Decidable.decide (v6 < 12) = Bool.true, InR IntKind.i64 (v6 + 1), P46 v5 (v6 + 1) 1, Decidable.decide (g46_0 v5 (v6 + 1) 1 ≤ x0) = Bool.true, InR IntKind.i64 (v6 + 1)]) := by kernel_rfl
theorem p31_5 (v6 : Int) (x0 : Int) (v5 : Int) : runF tab ext31 false 38 [] 2000 [] oks31 kds31 tys31 Tryz.f31.results [true, false] (cutAt b31 4) (E31_4 v6 x0 v5) (L31_4 v6 x0 v5) = some ([Dyn.mk (Ty.int IntKind.i64) v5, Dyn.mk (Ty.int IntKind.i64) v6, Dyn.mk (Ty.int IntKind.i64) (x0 - g46_0 v5 v6 1 + 1)], [], [Decidable.decide (v6 < 12) = Bool.true, InR IntKind.i64 (v6 + 1), P46 v5 (v6 + 1) 1, Decidable.decide (g46_0 v5 (v6 + 1) 1 ≤ x0) = Bool.false, P46 v5 v6 1, InR IntKind.i64 (x0 - g46_0 v5 v6 1), InR IntKind.i64 (x0 - g46_0 v5 v6 1 + 1)]) := by kernel_rfl
theorem p31_6 (v6 : Int) (x0 : Int) (v5 : Int) : runF tab ext31 false 38 [] 2000 [] oks31 kds31 tys31 Tryz.f31.results [false, false] (cutAt b31 4) (E31_4 v6 x0 v5) (L31_4 v6 x0 v5) = some ([Dyn.mk (Ty.int IntKind.i64) v5, Dyn.mk (Ty.int IntKind.i64) v6, Dyn.mk (Ty.int IntKind.i64) (x0 - g46_0 v5 v6 1 + 1)], [], [Decidable.decide (v6 < 12) = Bool.false, Bool.false = Bool.false, P46 v5 v6 1, InR IntKind.i64 (x0 - g46_0 v5 v6 1), InR IntKind.i64 (x0 - g46_0 v5 v6 1 + 1)]) := by kernel_rfl
theorem snd31 : ∀ n, (∀ (x0 : Int) ds, R31 n x0 ds → ∀ K q, AtV Tryz.prog 31 (PostR kds31 oks31 ds [] [] q K) 38 K q [] [.code b31] (entE 0 0 sig31 (x0, ())) (entL sig31 (x0, ()))) ∧ (∀ (v5 : Int) (x0 : Int) ds, R31_2 n v5 x0 ds → ∀ K q, AtV Tryz.prog 31 (PostR kds31 oks31 ds [] [] q K) 38 K q [] (cutAt b31 2) (E31_2 v5 x0) (L31_2 v5 x0)) ∧ (∀ (v6 : Int) (x0 : Int) (v5 : Int) ds, R31_4 n v6 x0 v5 ds → ∀ K q, AtV Tryz.prog 31 (PostR kds31 oks31 ds [] [] q K) 38 K q [] (cutAt b31 4) (E31_4 v6 x0 v5) (L31_4 v6 x0 v5)) := by
  intro n
  induction n with
  | zero => exact ⟨fun _ _ h => by simp only [R31] at h, fun _ _ _ h => by simp only [R31_2] at h, fun _ _ _ _ h => by simp only [R31_4] at h⟩
  | succ n ih =>
  obtain ⟨ih, ih2, ih4⟩ := ih
  refine ⟨?_, ?_, ?_⟩
  · intro x0 ds h K q
    rw [R31] at h
    exact AtV.runN tabOk ext31Ok mixed (p31_0 x0) trivial (ih2 _ _ _ h K q)

  · intro v5 x0 ds h K q
    rw [R31_2] at h
    by_cases b0 : (Decidable.decide (v5 < 2099)) = true
    · rw [if_pos b0] at h
      obtain ⟨s0, h⟩ := h
      obtain ⟨s1, h⟩ := h
      by_cases b1 : (Decidable.decide (g46_0 (v5 + 1) 1 1 ≤ x0)) = true
      · rw [if_pos b1] at h
        obtain ⟨s2, h⟩ := h
        exact AtV.runN tabOk ext31Ok mixed (p31_1 v5 x0) ⟨b0, s0, s1, b1, s2, trivial⟩ (ih2 _ _ _ h K q)
      · rw [if_neg b1] at h
        replace b1 := Bool.eq_false_iff.2 b1
        exact AtV.runN tabOk ext31Ok mixed (p31_2 v5 x0) ⟨b0, s0, s1, b1, trivial⟩ (ih4 _ _ _ _ h K q)
    · rw [if_neg b0] at h
      replace b0 := Bool.eq_false_iff.2 b0
      exact AtV.runN tabOk ext31Ok mixed (p31_3 v5 x0) ⟨b0, rfl, trivial⟩ (ih4 _ _ _ _ h K q)

  · intro v6 x0 v5 ds h K q
    rw [R31_4] at h
    by_cases b0 : (Decidable.decide (v6 < 12)) = true
    · rw [if_pos b0] at h
      obtain ⟨s0, h⟩ := h
      obtain ⟨s1, h⟩ := h
      by_cases b1 : (Decidable.decide (g46_0 v5 (v6 + 1) 1 ≤ x0)) = true
      · rw [if_pos b1] at h
        obtain ⟨s2, h⟩ := h
        exact AtV.runN tabOk ext31Ok mixed (p31_4 v6 x0 v5) ⟨b0, s0, s1, b1, s2, trivial⟩ (ih4 _ _ _ _ h K q)
      · rw [if_neg b1] at h
        replace b1 := Bool.eq_false_iff.2 b1
        obtain ⟨s2, h⟩ := h
        obtain ⟨s3, h⟩ := h
        obtain ⟨s4, h⟩ := h
        subst h
        exact AtV.fin Tryz.func31 tabOk ext31Ok mixed (p31_5 v6 x0 v5) ⟨b0, s0, s1, b1, s2, s3, s4, trivial⟩
    · rw [if_neg b0] at h
      replace b0 := Bool.eq_false_iff.2 b0
      obtain ⟨s0, h⟩ := h
      obtain ⟨s1, h⟩ := h
      obtain ⟨s2, h⟩ := h
      subst h
      exact AtV.fin Tryz.func31 tabOk ext31Ok mixed (p31_6 v6 x0 v5) ⟨b0, rfl, s0, s1, s2, trivial⟩



def yr31 (day : Int) : Nat → Int → Int
  | 0, y => y
  | k + 1, y => if g46_0 (y + 1) 1 1 ≤ day then yr31 day k (y + 1) else y
def mo31 (day y : Int) : Nat → Int → Int
  | 0, m => m
  | k + 1, m => if g46_0 y (m + 1) 1 ≤ day then mo31 day y k (m + 1) else m
def g31_0 (x0 : Int) : Int := yr31 x0 99 2000
def g31_1 (x0 : Int) : Int := mo31 x0 (g31_0 x0) 11 1
def g31_2 (x0 : Int) : Int := x0 - g46_0 (g31_0 x0) (g31_1 x0) 1 + 1
def P31 (x0 : Int) : Prop := 0 ≤ x0 ∧ x0 ≤ 1000000

theorem day31 {y m : Int} (hy : 2000 ≤ y ∧ y ≤ 2099) (hm : 1 ≤ m ∧ m ≤ 12) : P46 y m 1 ∧ 0 ≤ g46_0 y m 1 ∧ g46_0 y m 1 ≤ 1000000 := by
  have e : Int.tdiv (y - 1997) 4 = (y - 1997) / 4 := Int.tdiv_eq_ediv_of_nonneg (by omega)
  have := msb46 hy (m - 1).toNat
  refine ⟨⟨hy, hm, by omega⟩, ?_, ?_⟩ <;> unfold g46_0 bs46 <;> rw [e] <;> omega

theorem runM31 {y day : Int} (hy : 2000 ≤ y ∧ y ≤ 2099) (hd : 0 ≤ day ∧ day ≤ 1000000) (e : Nat) : ∀ (k : Nat) (m : Int), m + k = 12 → 1 ≤ m →
    R31_4 (k + 1 + e) m day y [⟨.int .i64, y⟩, ⟨.int .i64, mo31 day y k m⟩, ⟨.int .i64, day - g46_0 y (mo31 day y k m) 1 + 1⟩] := by
  intro k
  induction k with
  | zero =>
    intro m hm h1
    obtain ⟨p, b1, b2⟩ := day31 hy (m := m) (by omega)
    rw [show 0 + 1 + e = e + 1 by omega, R31_4, if_neg (by simp; omega)]
    exact ⟨p, by rw [i64_iff]; omega, by rw [i64_iff]; omega, rfl⟩
  | succ k ih =>
    intro m hm h1
    obtain ⟨p, b1, b2⟩ := day31 hy (m := m) (by omega)
    obtain ⟨q, c1, c2⟩ := day31 hy (m := m + 1) (by omega)
    rw [show k + 1 + 1 + e = (k + 1 + e) + 1 by omega, R31_4, if_pos (by simp; omega)]
    refine ⟨by rw [i64_iff]; omega, q, ?_⟩
    unfold mo31
    by_cases hc : g46_0 y (m + 1) 1 ≤ day
    · rw [if_pos (by simpa using hc), if_pos hc]
      exact ⟨by rw [i64_iff]; omega, ih (m + 1) (by omega) (by omega)⟩
    · rw [if_neg (by simpa using hc), if_neg hc]
      exact ⟨p, by rw [i64_iff]; omega, by rw [i64_iff]; omega, rfl⟩

theorem runY31 {day : Int} (hd : 0 ≤ day ∧ day ≤ 1000000) : ∀ (k : Nat) (y : Int), y + k = 2099 → 2000 ≤ y →
    R31_2 (k + 1 + 12) y day [⟨.int .i64, yr31 day k y⟩, ⟨.int .i64, mo31 day (yr31 day k y) 11 1⟩, ⟨.int .i64, day - g46_0 (yr31 day k y) (mo31 day (yr31 day k y) 11 1) 1 + 1⟩] := by
  intro k
  induction k with
  | zero =>
    intro y hy h1
    rw [show 0 + 1 + 12 = (11 + 1 + 0) + 1 by omega, R31_2, if_neg (by simp; omega)]
    exact runM31 (by omega) hd 0 11 1 (by omega) (by omega)
  | succ k ih =>
    intro y hy h1
    obtain ⟨q, c1, c2⟩ := day31 (y := y + 1) (m := 1) (by omega) (by omega)
    rw [show k + 1 + 1 + 12 = (k + 1 + 12) + 1 by omega, R31_2, if_pos (by simp; omega)]
    refine ⟨by rw [i64_iff]; omega, q, ?_⟩
    unfold yr31
    by_cases hc : g46_0 (y + 1) 1 1 ≤ day
    · rw [if_pos (by simpa using hc), if_pos hc]
      exact ⟨by rw [i64_iff]; omega, ih (y + 1) (by omega) (by omega)⟩
    · rw [if_neg (by simpa using hc), if_neg hc, show k + 1 + 12 = 11 + 1 + (k + 1) by omega]
      exact runM31 (by omega) hd (k + 1) 11 1 (by omega) (by omega)

theorem top31 (x0 : Int) (h : P31 x0) : R31 (99 + 1 + 12 + 1) x0 [⟨.int .i64, g31_0 x0⟩, ⟨.int .i64, g31_1 x0⟩, ⟨.int .i64, g31_2 x0⟩] := by
  rw [R31]
  exact runY31 h 99 2000 (by omega) (by omega)

def S31 : Am.Spec := { sig := sig31, pre := fun ⟨x0, _⟩ => P31 x0, res := fun ⟨x0, _⟩ => [⟨.int .i64, g31_0 x0⟩, ⟨.int .i64, g31_1 x0⟩, ⟨.int .i64, g31_2 x0⟩] }
theorem con31 : Contract Tryz.prog 31 S31 := contract_of Tryz.func31 hb31 (Nat.le_of_ble_eq_true (by kernel_rfl)) (fun ⟨x0, _⟩ h hwf K q =>
  (snd31 _).1 x0 _ (top31 x0 h) K q)

end
end Go.Proofs.YtpoajfdfmiafnaaGreatDoor

/- The contracts of the library that this program uses, laid at this program. Written by a tool of the kit. -/
set_option linter.unusedVariables false
set_option maxRecDepth 100000
namespace Go.Proofs
open Go.Shelf
def Tryz.lays169_ren : Go.Shelf.Ren := ⟨fun | 169 => 58 | n => n, fun | 70 => 72 | 9 => 9 | 0 => 0 | 72 => 74 | 37 => 49 | 127 => 103 | 3 => 3 | 5 => 5 | n => n, fun | n => n⟩
theorem Tryz.lays169 : Go.Proofs.Lays.n169 Tryz.prog Tryz.lays169_ren := {
  mixed := by kernel_rfl
  f169 := Tryz.func58.trans (congrArg some (by kernel_rfl))
  t0 := Tryz.underlying0
  a0 := Tryz.isAgg0
  z0 := Tryz.sizeOf0
  v0 := Tryz.zeroValue0
  t3 := Tryz.underlying3
  a3 := Tryz.isAgg3
  z3 := Tryz.sizeOf3
  v3 := Tryz.zeroValue3
  t9 := Tryz.underlying9
  a9 := Tryz.isAgg9
  z9 := Tryz.sizeOf9
  v9 := Tryz.zeroValue9
  t37 := Tryz.underlying49
  a37 := Tryz.isAgg49
  z37 := Tryz.sizeOf49
  v37 := Tryz.zeroValue49
  t70 := Tryz.underlying72
  a70 := Tryz.isAgg72
  z70 := Tryz.sizeOf72
  v70 := Tryz.zeroValue72
  t72 := Tryz.underlying74
  a72 := Tryz.isAgg74
  z72 := Tryz.sizeOf74
  v72 := Tryz.zeroValue74
  t127 := Tryz.underlying103
  a127 := Tryz.isAgg103
  z127 := Tryz.sizeOf103
  v127 := Tryz.zeroValue103 }
theorem Tryz.Builder_Extra_169 : Builder.Extra Tryz.prog Tryz.lays169_ren := {
  sizeBuilder := by kernel_rfl
  liesBuilder := by kernel_rfl
  t5 := Tryz.underlying5
  a5 := Tryz.isAgg5
  z5 := Tryz.sizeOf5
  v5 := Tryz.zeroValue5
  infoByte := by kernel_rfl
  cellsByte := by kernel_rfl
  sizeByte := by kernel_rfl
  neB5 := by decide }
def Tryz.lays156_ren : Go.Shelf.Ren := ⟨fun | 156 => 39 | 165 => 55 | 166 => 56 | 169 => 58 | 240 => 78 | 241 => 79 | 276 => 90 | 277 => 91 | n => n, fun | 31 => 24 | 9 => 9 | 3 => 3 | 4 => 4 | 0 => 0 | 20 => 20 | 72 => 74 | 76 => 78 | 70 => 72 | 37 => 49 | 75 => 77 | 127 => 103 | 164 => 113 | 5 => 5 | 80 => 81 | n => n, fun | n => n⟩
theorem Tryz.lays156 : Go.Proofs.Lays.n156 Tryz.prog Tryz.lays156_ren := {
  mixed := by kernel_rfl
  f156 := Tryz.func39.trans (congrArg some (by kernel_rfl))
  f165 := Tryz.func55.trans (congrArg some (by kernel_rfl))
  f166 := Tryz.func56.trans (congrArg some (by kernel_rfl))
  f169 := Tryz.func58.trans (congrArg some (by kernel_rfl))
  f240 := Tryz.func78.trans (congrArg some (by kernel_rfl))
  f241 := Tryz.func79.trans (congrArg some (by kernel_rfl))
  f276 := Tryz.func90.trans (congrArg some (by kernel_rfl))
  f277 := Tryz.func91.trans (congrArg some (by kernel_rfl))
  t0 := Tryz.underlying0
  a0 := Tryz.isAgg0
  z0 := Tryz.sizeOf0
  v0 := Tryz.zeroValue0
  t3 := Tryz.underlying3
  a3 := Tryz.isAgg3
  z3 := Tryz.sizeOf3
  v3 := Tryz.zeroValue3
  t4 := Tryz.underlying4
  a4 := Tryz.isAgg4
  z4 := Tryz.sizeOf4
  v4 := Tryz.zeroValue4
  t9 := Tryz.underlying9
  a9 := Tryz.isAgg9
  z9 := Tryz.sizeOf9
  v9 := Tryz.zeroValue9
  t20 := Tryz.underlying20
  a20 := Tryz.isAgg20
  z20 := Tryz.sizeOf20
  v20 := Tryz.zeroValue20
  t31 := Tryz.underlying24
  a31 := Tryz.isAgg24
  z31 := Tryz.sizeOf24
  v31 := Tryz.zeroValue24
  t37 := Tryz.underlying49
  a37 := Tryz.isAgg49
  z37 := Tryz.sizeOf49
  v37 := Tryz.zeroValue49
  t70 := Tryz.underlying72
  a70 := Tryz.isAgg72
  z70 := Tryz.sizeOf72
  v70 := Tryz.zeroValue72
  t72 := Tryz.underlying74
  a72 := Tryz.isAgg74
  z72 := Tryz.sizeOf74
  v72 := Tryz.zeroValue74
  t75 := Tryz.underlying77
  a75 := Tryz.isAgg77
  z75 := Tryz.sizeOf77
  v75 := Tryz.zeroValue77
  t76 := Tryz.underlying78
  a76 := Tryz.isAgg78
  z76 := Tryz.sizeOf78
  v76 := Tryz.zeroValue78
  t127 := Tryz.underlying103
  a127 := Tryz.isAgg103
  z127 := Tryz.sizeOf103
  v127 := Tryz.zeroValue103
  t164 := Tryz.underlying113
  a164 := Tryz.isAgg113
  z164 := Tryz.sizeOf113
  v164 := Tryz.zeroValue113 }
theorem Tryz.Builder_Extra_156 : Builder.Extra Tryz.prog Tryz.lays156_ren := {
  sizeBuilder := by kernel_rfl
  liesBuilder := by kernel_rfl
  t5 := Tryz.underlying5
  a5 := Tryz.isAgg5
  z5 := Tryz.sizeOf5
  v5 := Tryz.zeroValue5
  infoByte := by kernel_rfl
  cellsByte := by kernel_rfl
  sizeByte := by kernel_rfl
  neB5 := by decide }
open Go.RowKit in theorem Tryz.strings_Join_none (a : Option Addr) (c : Nat) (sep : ByteArray) (w : World) :
    Calls Tryz.prog 39 #[.slice a 0 c, .string sep] w fun e w' => e = .returned (.string ⟨#[]⟩) ∧ w' = w := Any.strings_Join_none Tryz.lays156 Tryz.Builder_Extra_156 a c sep w
open Go.RowKit in theorem Tryz.strings_Join (bk o c : Nat) (xs : List ByteArray) (sep : ByteArray) (w : World) (hcells : ∀ (j : Nat) x, xs[j]? = some x → w.cell? ⟨bk, o + j, none⟩ = some (.string x)) (hbk : bk < w.heap.size) (hN : xs.length ≤ 140737488355328) (hcap : xs.length ≤ c) (hlen : (Lib.join (xs.map (·.data.toList)) sep.data.toList).length ≤ 140737488355328) :
    Calls Tryz.prog 39 #[.slice (some ⟨bk, o, none⟩) xs.length c, .string sep] w fun e w' => e = .returned (.string ⟨(Lib.join (xs.map (·.data.toList)) sep.data.toList).toArray⟩) ∧ Below w.heap.size w w' := Any.strings_Join Tryz.lays156 Tryz.Builder_Extra_156 bk o c xs sep w hcells hbk hN hcap hlen
def Tryz.lays162_ren : Go.Shelf.Ren := ⟨fun | 162 => 38 | 232 => 59 | 227 => 60 | 234 => 61 | 236 => 62 | 228 => 80 | 271 => 81 | 151 => 82 | 120 => 92 | 197 => 93 | 152 => 94 | 260 => 98 | 137 => 99 | 119 => 100 | 224 => 101 | 225 => 102 | 217 => 103 | 266 => 104 | n => n, fun | 9 => 9 | 4 => 4 | 3 => 3 | 5 => 5 | 117 => 85 | 116 => 84 | 0 => 0 | 124 => 88 | 21 => 21 | 105 => 104 | 46 => 68 | 119 => 123 | 139 => 126 | 138 => 125 | n => n, fun | 3 => 4 | 4 => 5 | n => n⟩
theorem Tryz.lays162 : Go.Proofs.Lays.n162 Tryz.prog Tryz.lays162_ren := {
  mixed := by kernel_rfl
  f119 := Tryz.func100.trans (congrArg some (by kernel_rfl))
  f120 := Tryz.func92.trans (congrArg some (by kernel_rfl))
  f137 := Tryz.func99.trans (congrArg some (by kernel_rfl))
  f151 := Tryz.func82.trans (congrArg some (by kernel_rfl))
  f152 := Tryz.func94.trans (congrArg some (by kernel_rfl))
  f162 := Tryz.func38.trans (congrArg some (by kernel_rfl))
  f197 := Tryz.func93.trans (congrArg some (by kernel_rfl))
  f217 := Tryz.func103.trans (congrArg some (by kernel_rfl))
  f224 := Tryz.func101.trans (congrArg some (by kernel_rfl))
  f225 := Tryz.func102.trans (congrArg some (by kernel_rfl))
  f227 := Tryz.func60.trans (congrArg some (by kernel_rfl))
  f228 := Tryz.func80.trans (congrArg some (by kernel_rfl))
  f232 := Tryz.func59.trans (congrArg some (by kernel_rfl))
  f234 := Tryz.func61.trans (congrArg some (by kernel_rfl))
  f236 := Tryz.func62.trans (congrArg some (by kernel_rfl))
  f260 := Tryz.func98.trans (congrArg some (by kernel_rfl))
  f266 := Tryz.func104.trans (congrArg some (by kernel_rfl))
  f271 := Tryz.func81.trans (congrArg some (by kernel_rfl))
  t0 := Tryz.underlying0
  a0 := Tryz.isAgg0
  z0 := Tryz.sizeOf0
  v0 := Tryz.zeroValue0
  t3 := Tryz.underlying3
  a3 := Tryz.isAgg3
  z3 := Tryz.sizeOf3
  v3 := Tryz.zeroValue3
  t4 := Tryz.underlying4
  a4 := Tryz.isAgg4
  z4 := Tryz.sizeOf4
  v4 := Tryz.zeroValue4
  t5 := Tryz.underlying5
  a5 := Tryz.isAgg5
  z5 := Tryz.sizeOf5
  v5 := Tryz.zeroValue5
  t9 := Tryz.underlying9
  a9 := Tryz.isAgg9
  z9 := Tryz.sizeOf9
  v9 := Tryz.zeroValue9
  t21 := Tryz.underlying21
  a21 := Tryz.isAgg21
  z21 := Tryz.sizeOf21
  v21 := Tryz.zeroValue21
  t46 := Tryz.underlying68
  a46 := Tryz.isAgg68
  z46 := Tryz.sizeOf68
  v46 := Tryz.zeroValue68
  t105 := Tryz.underlying104
  a105 := Tryz.isAgg104
  z105 := Tryz.sizeOf104
  v105 := Tryz.zeroValue104
  t116 := Tryz.underlying84
  a116 := Tryz.isAgg84
  z116 := Tryz.sizeOf84
  t117 := Tryz.underlying85
  a117 := Tryz.isAgg85
  z117 := Tryz.sizeOf85
  v117 := Tryz.zeroValue85
  t119 := Tryz.underlying123
  a119 := Tryz.isAgg123
  z119 := Tryz.sizeOf123
  t124 := Tryz.underlying88
  a124 := Tryz.isAgg88
  z124 := Tryz.sizeOf88
  v124 := Tryz.zeroValue88
  t138 := Tryz.underlying125
  a138 := Tryz.isAgg125
  z138 := Tryz.sizeOf125
  v138 := Tryz.zeroValue125
  t139 := Tryz.underlying126
  a139 := Tryz.isAgg126
  z139 := Tryz.sizeOf126
  v139 := Tryz.zeroValue126
  g3 := by kernel_rfl
  g4 := by kernel_rfl }
open Go.RowKit in theorem Tryz.strings_TrimRight_one (s : ByteArray) (c : UInt8) (hc : c.toNat < 128) (w : World) (hs : s.size ≤ 9223372036854775807) :
    Calls Tryz.prog 38 #[.string s, .string ⟨#[c]⟩] w fun e w' => e = .returned (.string ⟨(Lib.trimRightB s.data.toList c).toArray⟩) ∧ w' = w := Any.strings_TrimRight_one Tryz.lays162 s c hc w hs
open Go.RowKit in theorem Tryz.Builder_String_any_k (B b : Nat) (l : List UInt8) (w : World) (h : Lib.IsBuilderF 74 5 B b (Lib.byteCells l) w) (hBw : B ≤ w.heap.size) :
    Calls Tryz.prog 58 #[.pointer (some ⟨b, 0, none⟩)] w fun e w' => e = .returned (.string ⟨l.toArray⟩) ∧ (Lib.IsBuilderF 74 5 B b (Lib.byteCells l) w' ∧ Below B w w' ∧ Lib.OthersKept 5 (some b) w w') := Any.Builder_String_any_k Tryz.lays169 Tryz.Builder_Extra_169 B b l w h hBw
def Tryz.laysM173_ren : Go.Shelf.Ren := ⟨fun | 173 => 33 | 246 => 47 | 283 => 69 | 284 => 70 | 285 => 71 | 286 => 72 | 129 => 86 | 317 => 85 | 318 => 87 | 319 => 88 | 320 => 89 | 337 => 96 | 338 => 97 | n => n, fun | 2 => 2 | 3 => 3 | 9 => 9 | 4 => 4 | 171 => 90 | 0 => 0 | 53 => 91 | 37 => 49 | 5 => 5 | 173 => 94 | 212 => 109 | 51 => 98 | 20 => 20 | 213 => 110 | 46 => 68 | 232 => 121 | 233 => 122 | n => n, fun | 17 => 0 | 18 => 2 | 19 => 3 | n => n⟩
theorem Tryz.laysM173 : Go.Proofs.LaysM.n173 Tryz.prog Tryz.laysM173_ren := {
  mixed := by kernel_rfl
  f129 := Tryz.func86.trans (congrArg some (by kernel_rfl))
  f173 := Tryz.func33.trans (congrArg some (by kernel_rfl))
  f246 := Tryz.func47.trans (congrArg some (by kernel_rfl))
  f283 := Tryz.func69.trans (congrArg some (by kernel_rfl))
  f284 := Tryz.func70.trans (congrArg some (by kernel_rfl))
  f285 := Tryz.func71.trans (congrArg some (by kernel_rfl))
  f286 := Tryz.func72.trans (congrArg some (by kernel_rfl))
  f317 := Tryz.func85.trans (congrArg some (by kernel_rfl))
  f318 := Tryz.func87.trans (congrArg some (by kernel_rfl))
  f319 := Tryz.func88.trans (congrArg some (by kernel_rfl))
  f320 := Tryz.func89.trans (congrArg some (by kernel_rfl))
  f337 := Tryz.func96.trans (congrArg some (by kernel_rfl))
  f338 := Tryz.func97.trans (congrArg some (by kernel_rfl))
  t0 := Tryz.underlying0
  a0 := Tryz.isAgg0
  z0 := Tryz.sizeOf0
  v0 := Tryz.zeroValue0
  t2 := Tryz.underlying2
  a2 := Tryz.isAgg2
  z2 := Tryz.sizeOf2
  v2 := Tryz.zeroValue2
  t3 := Tryz.underlying3
  a3 := Tryz.isAgg3
  z3 := Tryz.sizeOf3
  v3 := Tryz.zeroValue3
  t4 := Tryz.underlying4
  a4 := Tryz.isAgg4
  z4 := Tryz.sizeOf4
  v4 := Tryz.zeroValue4
  t5 := Tryz.underlying5
  a5 := Tryz.isAgg5
  z5 := Tryz.sizeOf5
  v5 := Tryz.zeroValue5
  t9 := Tryz.underlying9
  a9 := Tryz.isAgg9
  z9 := Tryz.sizeOf9
  v9 := Tryz.zeroValue9
  t20 := Tryz.underlying20
  a20 := Tryz.isAgg20
  z20 := Tryz.sizeOf20
  v20 := Tryz.zeroValue20
  t37 := Tryz.underlying49
  a37 := Tryz.isAgg49
  z37 := Tryz.sizeOf49
  v37 := Tryz.zeroValue49
  t46 := Tryz.underlying68
  a46 := Tryz.isAgg68
  z46 := Tryz.sizeOf68
  v46 := Tryz.zeroValue68
  t51 := Tryz.underlying98
  a51 := Tryz.isAgg98
  z51 := Tryz.sizeOf98
  v51 := Tryz.zeroValue98
  t53 := Tryz.underlying91
  a53 := Tryz.isAgg91
  z53 := Tryz.sizeOf91
  v53 := Tryz.zeroValue91
  t171 := Tryz.underlying90
  a171 := Tryz.isAgg90
  z171 := Tryz.sizeOf90
  v171 := Tryz.zeroValue90
  t173 := Tryz.underlying94
  a173 := Tryz.isAgg94
  z173 := Tryz.sizeOf94
  v173 := Tryz.zeroValue94
  t212 := Tryz.underlying109
  a212 := Tryz.isAgg109
  z212 := Tryz.sizeOf109
  v212 := Tryz.zeroValue109
  t213 := Tryz.underlying110
  a213 := Tryz.isAgg110
  z213 := Tryz.sizeOf110
  t232 := Tryz.underlying121
  a232 := Tryz.isAgg121
  z232 := Tryz.sizeOf121
  v232 := Tryz.zeroValue121
  t233 := Tryz.underlying122
  a233 := Tryz.isAgg122
  z233 := Tryz.sizeOf122
  v233 := Tryz.zeroValue122
  g17 := by kernel_rfl
  g18 := by kernel_rfl
  g19 := by kernel_rfl
  i0 := by kernel_rfl
  i2 := by kernel_rfl
  i3 := by kernel_rfl
  i4 := by kernel_rfl
  i5 := by kernel_rfl
  i9 := by kernel_rfl
  i20 := by kernel_rfl
  i37 := by kernel_rfl
  i46 := by kernel_rfl
  i51 := by kernel_rfl
  i53 := by kernel_rfl
  i171 := by kernel_rfl
  i173 := by kernel_rfl
  i212 := by kernel_rfl
  i232 := by kernel_rfl
  i233 := by kernel_rfl
  m17 := by kernel_rfl
  m18 := by kernel_rfl
  m19 := by kernel_rfl }
open Go.RowKit Go.Sort Go.Lib in theorem Tryz.strconv_FormatInt_10 (n : Int) (h0 : -9223372036854775808 ≤ n) (h1 : n ≤ 9223372036854775807) (w : World) (htab : Lib.TabIs Tryz.prog w "internal/strconv.uint64pow10" .u64 Lib.pow10Tab) :
    Calls Tryz.prog 33 #[.int .i64 n, .int .i64 10] w fun e w' => e = .returned (.string ⟨(Lib.itoa n).toArray⟩) ∧ ∃ k os, w' = grow (w.drewN k) os := Any.strconv_FormatInt_10 Tryz.laysM173 n h0 h1 w htab
def Tryz.lays99_ren : Go.Shelf.Ren := ⟨fun | 99 => 54 | 206 => 77 | n => n, fun | 9 => 9 | 4 => 4 | 3 => 3 | n => n, fun | n => n⟩
theorem Tryz.lays99 : Go.Proofs.Lays.n99 Tryz.prog Tryz.lays99_ren := {
  mixed := by kernel_rfl
  f99 := Tryz.func54.trans (congrArg some (by kernel_rfl))
  f206 := Tryz.func77.trans (congrArg some (by kernel_rfl))
  t3 := Tryz.underlying3
  a3 := Tryz.isAgg3
  z3 := Tryz.sizeOf3
  v3 := Tryz.zeroValue3
  t4 := Tryz.underlying4
  a4 := Tryz.isAgg4
  z4 := Tryz.sizeOf4
  v4 := Tryz.zeroValue4
  t9 := Tryz.underlying9
  a9 := Tryz.isAgg9
  z9 := Tryz.sizeOf9
  v9 := Tryz.zeroValue9 }
open Go.RowKit Go.Lib in theorem Tryz.strings_HasPrefix (s p : ByteArray) (w : World) :
    Calls Tryz.prog 54 #[.string s, .string p] w fun e w' => e = .returned (.bool (Lib.hasPrefix s.data.toList p.data.toList)) ∧ w' = w := Any.strings_HasPrefix Tryz.lays99 s p w
def Tryz.lays105_ren : Go.Shelf.Ren := ⟨fun | 105 => 37 | 212 => 53 | 99 => 54 | 165 => 55 | 166 => 56 | 170 => 57 | 169 => 58 | 263 => 75 | 264 => 76 | 206 => 77 | 240 => 78 | 241 => 79 | 276 => 90 | 277 => 91 | n => n, fun | 9 => 9 | 3 => 3 | 4 => 4 | 20 => 20 | 0 => 0 | 46 => 68 | 109 => 69 | 5 => 5 | 72 => 74 | 76 => 78 | 51 => 98 | 146 => 99 | 53 => 91 | 148 => 101 | 70 => 72 | 37 => 49 | 75 => 77 | 127 => 103 | 164 => 113 | 80 => 81 | n => n, fun | n => n⟩
theorem Tryz.lays105 : Go.Proofs.Lays.n105 Tryz.prog Tryz.lays105_ren := {
  mixed := by kernel_rfl
  f99 := Tryz.func54.trans (congrArg some (by kernel_rfl))
  f105 := Tryz.func37.trans (congrArg some (by kernel_rfl))
  f165 := Tryz.func55.trans (congrArg some (by kernel_rfl))
  f166 := Tryz.func56.trans (congrArg some (by kernel_rfl))
  f169 := Tryz.func58.trans (congrArg some (by kernel_rfl))
  f170 := Tryz.func57.trans (congrArg some (by kernel_rfl))
  f206 := Tryz.func77.trans (congrArg some (by kernel_rfl))
  f212 := Tryz.func53.trans (congrArg some (by kernel_rfl))
  f240 := Tryz.func78.trans (congrArg some (by kernel_rfl))
  f241 := Tryz.func79.trans (congrArg some (by kernel_rfl))
  f263 := Tryz.func75.trans (congrArg some (by kernel_rfl))
  f264 := Tryz.func76.trans (congrArg some (by kernel_rfl))
  f276 := Tryz.func90.trans (congrArg some (by kernel_rfl))
  f277 := Tryz.func91.trans (congrArg some (by kernel_rfl))
  t0 := Tryz.underlying0
  a0 := Tryz.isAgg0
  z0 := Tryz.sizeOf0
  v0 := Tryz.zeroValue0
  t3 := Tryz.underlying3
  a3 := Tryz.isAgg3
  z3 := Tryz.sizeOf3
  v3 := Tryz.zeroValue3
  t4 := Tryz.underlying4
  a4 := Tryz.isAgg4
  z4 := Tryz.sizeOf4
  v4 := Tryz.zeroValue4
  t5 := Tryz.underlying5
  a5 := Tryz.isAgg5
  z5 := Tryz.sizeOf5
  v5 := Tryz.zeroValue5
  t9 := Tryz.underlying9
  a9 := Tryz.isAgg9
  z9 := Tryz.sizeOf9
  v9 := Tryz.zeroValue9
  t20 := Tryz.underlying20
  a20 := Tryz.isAgg20
  z20 := Tryz.sizeOf20
  v20 := Tryz.zeroValue20
  t37 := Tryz.underlying49
  a37 := Tryz.isAgg49
  z37 := Tryz.sizeOf49
  v37 := Tryz.zeroValue49
  t46 := Tryz.underlying68
  a46 := Tryz.isAgg68
  z46 := Tryz.sizeOf68
  v46 := Tryz.zeroValue68
  t51 := Tryz.underlying98
  a51 := Tryz.isAgg98
  z51 := Tryz.sizeOf98
  v51 := Tryz.zeroValue98
  t53 := Tryz.underlying91
  a53 := Tryz.isAgg91
  z53 := Tryz.sizeOf91
  v53 := Tryz.zeroValue91
  t70 := Tryz.underlying72
  a70 := Tryz.isAgg72
  z70 := Tryz.sizeOf72
  v70 := Tryz.zeroValue72
  t72 := Tryz.underlying74
  a72 := Tryz.isAgg74
  z72 := Tryz.sizeOf74
  v72 := Tryz.zeroValue74
  t75 := Tryz.underlying77
  a75 := Tryz.isAgg77
  z75 := Tryz.sizeOf77
  v75 := Tryz.zeroValue77
  t76 := Tryz.underlying78
  a76 := Tryz.isAgg78
  z76 := Tryz.sizeOf78
  v76 := Tryz.zeroValue78
  t109 := Tryz.underlying69
  a109 := Tryz.isAgg69
  z109 := Tryz.sizeOf69
  v109 := Tryz.zeroValue69
  t127 := Tryz.underlying103
  a127 := Tryz.isAgg103
  z127 := Tryz.sizeOf103
  v127 := Tryz.zeroValue103
  t146 := Tryz.underlying99
  a146 := Tryz.isAgg99
  z146 := Tryz.sizeOf99
  v146 := Tryz.zeroValue99
  t148 := Tryz.underlying101
  a148 := Tryz.isAgg101
  z148 := Tryz.sizeOf101
  v148 := Tryz.zeroValue101
  t164 := Tryz.underlying113
  a164 := Tryz.isAgg113
  z164 := Tryz.sizeOf113
  v164 := Tryz.zeroValue113 }
theorem Tryz.Builder_Extra_105 : Builder.Extra Tryz.prog Tryz.lays105_ren := {
  sizeBuilder := by kernel_rfl
  liesBuilder := by kernel_rfl
  t5 := Tryz.underlying5
  a5 := Tryz.isAgg5
  z5 := Tryz.sizeOf5
  v5 := Tryz.zeroValue5
  infoByte := by kernel_rfl
  cellsByte := by kernel_rfl
  sizeByte := by kernel_rfl
  neB5 := by decide }
open Go.RowKit Go.Lib in theorem Tryz.strings_Repeat (s : ByteArray) (c : Nat) (w : World) (hc : c ≤ 9223372036854775807) (hlen : s.size * c ≤ 140737488355328) :
    Calls Tryz.prog 37 #[.string s, .int .i64 c] w fun e w' => e = .returned (.string ⟨(Lib.repeatL s.data.toList c).toArray⟩) ∧ Below w.heap.size w w' := Any.strings_Repeat Tryz.lays105 Tryz.Builder_Extra_105 s c w hc hlen
end Go.Proofs

/- Function 33 (strconv.FormatInt): its contract, off what is known of the library. -/
set_option linter.unusedVariables false
set_option linter.unusedSimpArgs false
set_option maxRecDepth 100000
namespace Go.Proofs.YtpoajfdfmiafnaaGreatDoor
open Go Go.Am Go.Proofs

def sig33 : List AT := [AT.v (Ty.int .i64), AT.v (Ty.int .i64)]
def g33_0 (x0 x1 : Int) : ByteArray := numB x0
def P33 (x0 x1 : Int) : Prop := x1 = 10
def S33 : Am.Spec := { sig := sig33, pre := fun ⟨x0, x1, _⟩ => P33 x0 x1, res := fun ⟨x0, x1, _⟩ => [⟨Ty.str, g33_0 x0 x1⟩] }
theorem con33 : Contract Tryz.prog 33 S33 := contract_flat rfl fun w ⟨x0, x1, _⟩ vs bss hg hp hw ha => by
  obtain ⟨v0, s0, _, _, rfl, _, ⟨_, rfl, hi⟩, v1, s1, _, _, rfl, _, ⟨_, rfl, _⟩, rfl, _⟩ := ha
  obtain rfl : x1 = 10 := hp
  have hi : InR .i64 x0 := hi
  rw [i64_iff] at hi
  refine ⟨fun d hd => ?_, ?_⟩
  · rw [List.mem_singleton.1 hd]
    refine ⟨rfl, ?_⟩
    show (numB x0).size ≤ maxLen
    have := numB_size x0 hi.1 hi.2
    unfold maxLen; omega
  · refine (Tryz.strconv_FormatInt_10 x0 hi.1 hi.2 w (pow10G hg)).mono ?_
    rintro e w' ⟨rfl, n, os, rfl⟩
    exact ⟨rfl, kept_grow _ _ _⟩

end Go.Proofs.YtpoajfdfmiafnaaGreatDoor

/- Function 21 (impl.Decimal): its runs between cut points. Written by a program of this repo (gen). -/
set_option linter.unusedVariables false
set_option linter.unusedSimpArgs false
set_option maxRecDepth 100000
namespace Go.Proofs.YtpoajfdfmiafnaaGreatDoor
open Go Go.Am Go.Proofs
noncomputable section
def ext21 : Ext := [(33, S33)]
theorem call21_33 : Callable Tryz.prog 33 := ⟨Tryz.f33, Tryz.func33, by kernel_rfl, by kernel_rfl⟩
theorem ext21Ok : ExtOk Tryz.prog ext21 := ⟨⟨call21_33, con33⟩, trivial⟩

noncomputable def b21 : Code := bodyOf Tryz.f21
theorem hb21 : Tryz.f21.body = some b21 := by kernel_rfl
def sig21 : List AT := [AT.v (Ty.int IntKind.i64)]
def tys21 : List Ty := [Ty.str]
def kds21 : List RK := []
def oks21 : List AT := owns sig21
def P21 (x0 : Int) : Prop := ((P33 x0 10) ∧ True)
def g21_0 (x0 : Int) : ByteArray := g33_0 x0 10
theorem p21_0 (x0 : Int) : runF tab ext21 false 5 [] 2000 [] oks21 kds21 tys21 Tryz.f21.results [] [.code b21] (entE 0 0 sig21 (x0, ())) (entL sig21 (x0, ())) = some ([Dyn.mk Ty.str (g33_0 x0 10)], [], [P33 x0 10]) := by kernel_rfl
theorem at21 (x0 : Int) (h : P21 x0) (K : Ctx) (q : Nat → Value) : AtV Tryz.prog 21 (PostR kds21 oks21 [⟨Ty.str, g21_0 x0⟩] [] [] q K) 5 K q [] [.code b21] (entE 0 0 sig21 (x0, ())) (entL sig21 (x0, ())) := by
  unfold P21 at h
  unfold g21_0
  obtain ⟨s0, h⟩ := h
  exact AtV.fin Tryz.func21 tabOk ext21Ok mixed (p21_0 x0) ⟨s0, trivial⟩

def S21 : Am.Spec := { sig := sig21, pre := fun ⟨x0, _⟩ => P21 x0, res := fun ⟨x0, _⟩ => [⟨Ty.str, g21_0 x0⟩], kds := kds21 }
theorem con21 : Contract Tryz.prog 21 S21 := contract_of Tryz.func21 hb21 (Nat.le_of_ble_eq_true (by kernel_rfl)) (fun ⟨x0, _⟩ h _ K q => at21 x0 h K q)


end
end Go.Proofs.YtpoajfdfmiafnaaGreatDoor

/- Function 37 (strings.Repeat): its contract, off what is known of the library. -/
set_option linter.unusedVariables false
set_option linter.unusedSimpArgs false
set_option maxRecDepth 100000
namespace Go.Proofs.YtpoajfdfmiafnaaGreatDoor
open Go Go.Am Go.Proofs

def sig37 : List AT := [AT.v Ty.str, AT.v (Ty.int .i64)]
def g37_0 (x0 : ByteArray) (x1 : Int) : ByteArray := ⟨(Lib.repeatL x0.data.toList x1.toNat).toArray⟩
def P37 (x0 : ByteArray) (x1 : Int) : Prop := 0 ≤ x1 ∧ (x0.size : Int) * x1 ≤ 140737488355328
def S37 : Am.Spec := { sig := sig37, pre := fun ⟨x0, x1, _⟩ => P37 x0 x1, res := fun ⟨x0, x1, _⟩ => [⟨Ty.str, g37_0 x0 x1⟩] }
theorem con37 : Contract Tryz.prog 37 S37 := contract_flat rfl fun w ⟨x0, x1, _⟩ vs bss hg hp hw ha => by
  obtain ⟨v0, s0, _, _, rfl, _, ⟨_, rfl, _⟩, v1, s1, _, _, rfl, _, ⟨_, rfl, _⟩, rfl, _⟩ := ha
  obtain ⟨h0, h1⟩ := hp
  obtain ⟨c, rfl⟩ : ∃ c : Nat, x1 = (c : Int) := Int.eq_ofNat_of_zero_le h0
  have hi : InR .i64 (c : Int) := hw.2.1
  rw [i64_iff] at hi
  have hm : x0.size * c ≤ 140737488355328 := by
    have : ((x0.size * c : Nat) : Int) = (x0.size : Int) * (c : Int) := Int.natCast_mul _ _
    omega
  refine ⟨fun d hd => ?_, ?_⟩
  · rw [List.mem_singleton.1 hd]
    refine ⟨rfl, ?_⟩
    show (ByteArray.mk (Lib.repeatL x0.data.toList c).toArray).size ≤ maxLen
    have : (ByteArray.mk (Lib.repeatL x0.data.toList c).toArray).size = c * x0.data.toList.length := by
      show (Lib.repeatL x0.data.toList c).toArray.size = _
      rw [List.size_toArray, Lib.repeatL_length]
    rw [this, Nat.mul_comm]
    have e : x0.data.toList.length = x0.size := rfl
    rw [e]
    unfold maxLen
    omega
  · refine (Tryz.strings_Repeat x0 c w (by omega) hm).mono ?_
    rintro e w' ⟨rfl, hb⟩
    exact ⟨rfl, Kept.of_below hb⟩

end Go.Proofs.YtpoajfdfmiafnaaGreatDoor

/- Function 32 (impl.padded): its runs between cut points. Written by a program of this repo (gen). -/
set_option linter.unusedVariables false
set_option linter.unusedSimpArgs false
set_option maxRecDepth 100000
namespace Go.Proofs.YtpoajfdfmiafnaaGreatDoor
open Go Go.Am Go.Proofs
noncomputable section
def ext32 : Ext := [(21, S21), (37, S37)]
theorem call32_21 : Callable Tryz.prog 21 := ⟨Tryz.f21, Tryz.func21, by kernel_rfl, by kernel_rfl⟩
theorem call32_37 : Callable Tryz.prog 37 := ⟨Tryz.f37, Tryz.func37, by kernel_rfl, by kernel_rfl⟩
theorem ext32Ok : ExtOk Tryz.prog ext32 := ⟨⟨call32_21, con21⟩, ⟨call32_37, con37⟩, trivial⟩

noncomputable def b32 : Code := bodyOf Tryz.f32
theorem hb32 : Tryz.f32.body = some b32 := by kernel_rfl
def sig32 : List AT := [AT.v (Ty.int IntKind.i64), AT.v (Ty.int IntKind.i64)]
def tys32 : List Ty := [Ty.str]
def kds32 : List RK := []
def oks32 : List AT := owns sig32
def P32 (x0 : Int) (x1 : Int) : Prop := ((P21 x0) ∧ ((InR IntKind.i64 (x1 - (↑(ByteArray.size (g21_0 x0)) : Int))) ∧ ((P37 (ByteArray.mk #[48]) (if 0 < x1 - (↑(ByteArray.size (g21_0 x0)) : Int) then x1 - (↑(ByteArray.size (g21_0 x0)) : Int) else 0)) ∧ ((ByteArray.size (g37_0 (ByteArray.mk #[48]) (if 0 < x1 - (↑(ByteArray.size (g21_0 x0)) : Int) then x1 - (↑(ByteArray.size (g21_0 x0)) : Int) else 0)) + ByteArray.size (g21_0 x0) ≤ 9223372036854775807) ∧ True))))
def g32_0 (x0 : Int) (x1 : Int) : ByteArray := g37_0 (ByteArray.mk #[48]) (if 0 < x1 - (↑(ByteArray.size (g21_0 x0)) : Int) then x1 - (↑(ByteArray.size (g21_0 x0)) : Int) else 0) ++ g21_0 x0
theorem p32_0 (x0 : Int) (x1 : Int) : runF tab ext32 false 16 [] 2000 [] oks32 kds32 tys32 Tryz.f32.results [] [.code b32] (entE 0 0 sig32 (x0, x1, ())) (entL sig32 (x0, x1, ())) = some ([Dyn.mk Ty.str (g37_0 (ByteArray.mk #[48]) (if 0 < x1 - (↑(ByteArray.size (g21_0 x0)) : Int) then x1 - (↑(ByteArray.size (g21_0 x0)) : Int) else 0) ++ g21_0 x0)], [], [P21 x0, InR IntKind.i64 (x1 - (↑(ByteArray.size (g21_0 x0)) : Int)), P37 (ByteArray.mk #[48]) (if 0 < x1 - (↑(ByteArray.size (g21_0 x0)) : Int) then x1 - (↑(ByteArray.size (g21_0 x0)) : Int) else 0), ByteArray.size (g37_0 (ByteArray.mk #[48]) (if 0 < x1 - (↑(ByteArray.size (g21_0 x0)) : Int) then x1 - (↑(ByteArray.size (g21_0 x0)) : Int) else 0)) + ByteArray.size (g21_0 x0) ≤ 9223372036854775807]) := by kernel_rfl
theorem at32 (x0 : Int) (x1 : Int) (h : P32 x0 x1) (K : Ctx) (q : Nat → Value) : AtV Tryz.prog 32 (PostR kds32 oks32 [⟨Ty.str, g32_0 x0 x1⟩] [] [] q K) 16 K q [] [.code b32] (entE 0 0 sig32 (x0, x1, ())) (entL sig32 (x0, x1, ())) := by
  unfold P32 at h
  unfold g32_0
  obtain ⟨s0, h⟩ := h
  obtain ⟨s1, h⟩ := h
  obtain ⟨s2, h⟩ := h
  obtain ⟨s3, h⟩ := h
  exact AtV.fin Tryz.func32 tabOk ext32Ok mixed (p32_0 x0 x1) ⟨s0, s1, s2, s3, trivial⟩

def S32 : Am.Spec := { sig := sig32, pre := fun ⟨x0, x1, _⟩ => P32 x0 x1, res := fun ⟨x0, x1, _⟩ => [⟨Ty.str, g32_0 x0 x1⟩], kds := kds32 }
theorem con32 : Contract Tryz.prog 32 S32 := contract_of Tryz.func32 hb32 (Nat.le_of_ble_eq_true (by kernel_rfl)) (fun ⟨x0, x1, _⟩ h _ K q => at32 x0 x1 h K q)


end
end Go.Proofs.YtpoajfdfmiafnaaGreatDoor

/- Function 20 (impl.DateText): its runs between cut points. Written by a program of this repo (gen). -/
set_option linter.unusedVariables false
set_option linter.unusedSimpArgs false
set_option maxRecDepth 100000
namespace Go.Proofs.YtpoajfdfmiafnaaGreatDoor
open Go Go.Am Go.Proofs
noncomputable section
def ext20 : Ext := [(30, S30), (31, S31), (21, S21), (32, S32)]
theorem call20_30 : Callable Tryz.prog 30 := ⟨Tryz.f30, Tryz.func30, by kernel_rfl, by kernel_rfl⟩
theorem call20_31 : Callable Tryz.prog 31 := ⟨Tryz.f31, Tryz.func31, by kernel_rfl, by kernel_rfl⟩
theorem call20_21 : Callable Tryz.prog 21 := ⟨Tryz.f21, Tryz.func21, by kernel_rfl, by kernel_rfl⟩
theorem call20_32 : Callable Tryz.prog 32 := ⟨Tryz.f32, Tryz.func32, by kernel_rfl, by kernel_rfl⟩
theorem ext20Ok : ExtOk Tryz.prog ext20 := ⟨⟨call20_30, con30⟩, ⟨call20_31, con31⟩, ⟨call20_21, con21⟩, ⟨call20_32, con32⟩, trivial⟩

noncomputable def b20 : Code := bodyOf Tryz.f20
theorem hb20 : Tryz.f20.body = some b20 := by kernel_rfl
def sig20 : List AT := [AT.v (Ty.int IntKind.i64)]
def tys20 : List Ty := [Ty.str]
def kds20 : List RK := []
def oks20 : List AT := owns sig20
def P20 (x0 : Int) : Prop := (if (!g30_0 x0) = true then True else ((P31 x0) ∧ ((P21 (g31_0 x0)) ∧ ((ByteArray.size (g21_0 (g31_0 x0)) + 1 ≤ 9223372036854775807) ∧ ((P32 (g31_1 x0) 2) ∧ ((ByteArray.size (g21_0 (g31_0 x0) ++ ByteArray.mk #[45]) + ByteArray.size (g32_0 (g31_1 x0) 2) ≤ 9223372036854775807) ∧ ((ByteArray.size (g21_0 (g31_0 x0) ++ ByteArray.mk #[45] ++ g32_0 (g31_1 x0) 2) + 1 ≤ 9223372036854775807) ∧ ((P32 (g31_2 x0) 2) ∧ ((ByteArray.size (g21_0 (g31_0 x0) ++ ByteArray.mk #[45] ++ g32_0 (g31_1 x0) 2 ++ ByteArray.mk #[45]) + ByteArray.size (g32_0 (g31_2 x0) 2) ≤ 9223372036854775807) ∧ True)))))))))
def g20_0 (x0 : Int) : ByteArray := (if (!g30_0 x0) = true then ByteArray.mk #[] else g21_0 (g31_0 x0) ++ ByteArray.mk #[45] ++ g32_0 (g31_1 x0) 2 ++ ByteArray.mk #[45] ++ g32_0 (g31_2 x0) 2)
theorem p20_0 (x0 : Int) : runF tab ext20 false 25 [] 2000 [] oks20 kds20 tys20 Tryz.f20.results [true] [.code b20] (entE 0 0 sig20 (x0, ())) (entL sig20 (x0, ())) = some ([Dyn.mk Ty.str (ByteArray.mk #[])], [], [True, (!g30_0 x0) = Bool.true]) := by kernel_rfl
theorem p20_1 (x0 : Int) : runF tab ext20 false 25 [] 2000 [] oks20 kds20 tys20 Tryz.f20.results [false] [.code b20] (entE 0 0 sig20 (x0, ())) (entL sig20 (x0, ())) = some ([Dyn.mk Ty.str (g21_0 (g31_0 x0) ++ ByteArray.mk #[45] ++ g32_0 (g31_1 x0) 2 ++ ByteArray.mk #[45] ++ g32_0 (g31_2 x0) 2)], [], [True, (!g30_0 x0) = Bool.false, P31 x0, P21 (g31_0 x0), ByteArray.size (g21_0 (g31_0 x0)) + 1 ≤ 9223372036854775807, P32 (g31_1 x0) 2, ByteArray.size (g21_0 (g31_0 x0) ++ ByteArray.mk #[45]) + ByteArray.size (g32_0 (g31_1 x0) 2) ≤ 9223372036854775807, ByteArray.size (g21_0 (g31_0 x0) ++ ByteArray.mk #[45] ++ g32_0 (g31_1 x0) 2) + 1 ≤ 9223372036854775807, P32 (g31_2 x0) 2, ByteArray.size (g21_0 (g31_0 x0) ++ ByteArray.mk #[45] ++ g32_0 (g31_1 x0) 2 ++ ByteArray.mk #[45]) + ByteArray.size (g32_0 (g31_2 x0) 2) ≤ 9223372036854775807]) := by kernel_rfl
theorem at20 (x0 : Int) (h : P20 x0) (K : Ctx) (q : Nat → Value) : AtV Tryz.prog 20 (PostR kds20 oks20 [⟨Ty.str, g20_0 x0⟩] [] [] q K) 25 K q [] [.code b20] (entE 0 0 sig20 (x0, ())) (entL sig20 (x0, ())) := by
  unfold P20 at h
  unfold g20_0
  by_cases b0 : (!g30_0 x0) = true
  · try simp only [if_pos b0] at h ⊢
    exact AtV.fin Tryz.func20 tabOk ext20Ok mixed (p20_0 x0) ⟨trivial, b0, trivial⟩
  · try simp only [if_neg b0] at h ⊢
    replace b0 := Bool.eq_false_iff.2 b0
    obtain ⟨s0, h⟩ := h
    obtain ⟨s1, h⟩ := h
    obtain ⟨s2, h⟩ := h
    obtain ⟨s3, h⟩ := h
    obtain ⟨s4, h⟩ := h
    obtain ⟨s5, h⟩ := h
    obtain ⟨s6, h⟩ := h
    obtain ⟨s7, h⟩ := h
    exact AtV.fin Tryz.func20 tabOk ext20Ok mixed (p20_1 x0) ⟨trivial, b0, s0, s1, s2, s3, s4, s5, s6, s7, trivial⟩

def S20 : Am.Spec := { sig := sig20, pre := fun ⟨x0, _⟩ => P20 x0, res := fun ⟨x0, _⟩ => [⟨Ty.str, g20_0 x0⟩], kds := kds20 }
theorem con20 : Contract Tryz.prog 20 S20 := contract_of Tryz.func20 hb20 (Nat.le_of_ble_eq_true (by kernel_rfl)) (fun ⟨x0, _⟩ h _ K q => at20 x0 h K q)


end
end Go.Proofs.YtpoajfdfmiafnaaGreatDoor

/- Function 39 (strings.Join): its contract, off what is known of the library. -/
set_option linter.unusedVariables false
set_option linter.unusedSimpArgs false
set_option maxRecDepth 100000
namespace Go.Proofs.YtpoajfdfmiafnaaGreatDoor
open Go Go.Am Go.Proofs

def sig39 : List AT := [AT.v (Ty.sl Ty.str), AT.v Ty.str]
def g39_0 (x0 : List ByteArray) (x1 : ByteArray) : ByteArray := ⟨(Lib.join (x0.map fun x => x.data.toList) x1.data.toList).toArray⟩
def P39 (x0 : List ByteArray) (x1 : ByteArray) : Prop := x0.length ≤ 1048576 ∧ (Lib.join (x0.map fun x => x.data.toList) x1.data.toList).length ≤ 140737488355328
def S39 : Am.Spec := { sig := sig39, pre := fun ⟨x0, x1, _⟩ => P39 x0 x1, res := fun ⟨x0, x1, _⟩ => [⟨Ty.str, g39_0 x0 x1⟩] }
theorem con39 : Contract Tryz.prog 39 S39 := contract_flat rfl fun w ⟨x0, x1, _⟩ vs bss hg hp hw ha => by
  obtain ⟨v0, s0, _, _, rfl, _, ⟨_, ho⟩, v1, s1, _, _, rfl, _, ⟨_, rfl, _⟩, rfl, _⟩ := ha
  obtain ⟨h0, h1⟩ : x0.length ≤ 1048576 ∧ (Lib.join (x0.map fun x => x.data.toList) x1.data.toList).length ≤ 140737488355328 := hp
  refine ⟨fun d hd => ?_, ?_⟩
  · rw [List.mem_singleton.1 hd]
    refine ⟨rfl, ?_⟩
    show (List.toArray _).size ≤ maxLen
    rw [List.size_toArray]; exact Nat.le_trans h1 (by decide)
  · obtain ⟨_, _, hcase⟩ := slAt_flat (t := .str) rfl ho
    rcases hcase with ⟨ad, rfl, rfl⟩ | ⟨b', off, cap, rfl, h2, h3, hG, hcells⟩
    · refine (Tryz.strings_Join_none ad 0 x1 w).mono ?_
      rintro e w' ⟨rfl, rfl⟩
      exact ⟨rfl, Kept.refl _ _⟩
    · refine (Tryz.strings_Join b' off cap x0 x1 w (fun j x hx => ?_) hG.1 (by omega) h2 h1).mono ?_
      · refine hcells j _ ?_
        have e : fcs .str x0 = x0.map Value.string := by
          have : ∀ xs : List ByteArray, fcs .str xs = xs.map Value.string := by
            intro xs
            induction xs with
            | nil => rfl
            | cons a r ih => unfold fcs at ih ⊢; rw [List.map_cons, List.flatten_cons, ih]; rfl
          exact this x0
        rw [e, List.getElem?_map, hx]
        rfl
      · rintro e w' ⟨rfl, hb⟩
        exact ⟨rfl, Kept.of_below hb⟩

end Go.Proofs.YtpoajfdfmiafnaaGreatDoor

/- Function 38 (strings.TrimRight): its contract, off what is known of the library. -/
set_option linter.unusedVariables false
set_option linter.unusedSimpArgs false
set_option maxRecDepth 100000
namespace Go.Proofs.YtpoajfdfmiafnaaGreatDoor
open Go Go.Am Go.Proofs
def sig38 : List AT := [AT.v Ty.str, AT.v Ty.str]
def g38_0 (x0 x1 : ByteArray) : ByteArray := ⟨(Lib.trimRightB x0.data.toList (x1.data.toList.getD 0 0)).toArray⟩
def P38 (x0 x1 : ByteArray) : Prop := ∃ c : UInt8, x1 = ⟨#[c]⟩ ∧ c.toNat < 128
def S38 : Am.Spec := { sig := sig38, pre := fun ⟨x0, x1, _⟩ => P38 x0 x1, res := fun ⟨x0, x1, _⟩ => [⟨Ty.str, g38_0 x0 x1⟩] }

theorem trl38 (l : List UInt8) (c : UInt8) : (Lib.trimRightB l c).length ≤ l.length := by
  unfold Lib.trimRightB
  first
  | (rw [List.length_reverse]; exact Nat.le_trans (List.dropWhile_sublist _).length_le (by rw [List.length_reverse]; exact Nat.le_refl _))
  | (simp; done)

theorem con38 : Contract Tryz.prog 38 S38 := contract_flat rfl fun w ⟨x0, x1, _⟩ vs bss hg hp hw ha => by
  obtain ⟨v0, s0, _, _, rfl, _, ⟨_, rfl, _⟩, v1, s1, _, _, rfl, _, ⟨_, rfl, _⟩, rfl, _⟩ := ha
  have hi : x0.size ≤ maxLen := hw.1
  obtain ⟨c, rfl, hc⟩ := hp
  refine ⟨fun d hd => ?_, ?_⟩
  · rw [List.mem_singleton.1 hd]
    refine ⟨rfl, ?_⟩
    show (List.toArray _).size ≤ maxLen
    rw [List.size_toArray]
    have e : x0.data.toList.length = x0.size := rfl
    have := trl38 x0.data.toList c
    show (Lib.trimRightB x0.data.toList c).length ≤ maxLen
    omega
  · refine (Tryz.strings_TrimRight_one x0 c hc w hi).mono ?_
    rintro e w' ⟨rfl, rfl⟩
    exact ⟨rfl, Kept.refl _ _⟩

end Go.Proofs.YtpoajfdfmiafnaaGreatDoor

/- Function 95 (impl.isReportLine$1): its runs between cut points. Written by a program of this repo (gen). -/
set_option linter.unusedVariables false
set_option linter.unusedSimpArgs false
set_option maxRecDepth 100000
namespace Go.Proofs.YtpoajfdfmiafnaaGreatDoor
open Go Go.Am Go.Proofs
noncomputable section
def ext95 : Ext := []
theorem ext95Ok : ExtOk Tryz.prog ext95 := trivial

noncomputable def b95 : Code := bodyOf Tryz.f95
theorem hb95 : Tryz.f95.body = some b95 := by kernel_rfl
def sig95 : List AT := [AT.v (Ty.int IntKind.u8)]
def tys95 : List Ty := [Ty.bool]
def kds95 : List RK := []
def oks95 : List AT := owns sig95
def P95 (x0 : Int) : Prop := True
def g95_0 (x0 : Int) : Bool := (if (Decidable.decide (x0 < 32)) = true then Bool.true else Decidable.decide (x0 > 126))
theorem p95_0 (x0 : Int) : runF tab ext95 false 9 [] 2000 [] oks95 kds95 tys95 Tryz.f95.results [true] [.code b95] (entE 0 0 sig95 (x0, ())) (entL sig95 (x0, ())) = some ([Dyn.mk Ty.bool Bool.true], [], [Decidable.decide (x0 < 32) = Bool.true]) := by kernel_rfl
theorem p95_1 (x0 : Int) : runF tab ext95 false 9 [] 2000 [] oks95 kds95 tys95 Tryz.f95.results [false] [.code b95] (entE 0 0 sig95 (x0, ())) (entL sig95 (x0, ())) = some ([Dyn.mk Ty.bool (Decidable.decide (x0 > 126))], [], [Decidable.decide (x0 < 32) = Bool.false]) := by kernel_rfl
theorem at95 (x0 : Int) (h : P95 x0) (K : Ctx) (q : Nat → Value) : AtV Tryz.prog 95 (PostR kds95 oks95 [⟨Ty.bool, g95_0 x0⟩] [] [] q K) 9 K q [] [.code b95] (entE 0 0 sig95 (x0, ())) (entL sig95 (x0, ())) := by
  unfold P95 at h
  unfold g95_0
  by_cases b0 : (Decidable.decide (x0 < 32)) = true
  · try simp only [if_pos b0] at h ⊢
    exact AtV.fin Tryz.func95 tabOk ext95Ok mixed (p95_0 x0) ⟨b0, trivial⟩
  · try simp only [if_neg b0] at h ⊢
    replace b0 := Bool.eq_false_iff.2 b0
    exact AtV.fin Tryz.func95 tabOk ext95Ok mixed (p95_1 x0) ⟨b0, trivial⟩

def S95 : Am.Spec := { sig := sig95, pre := fun ⟨x0, _⟩ => P95 x0, res := fun ⟨x0, _⟩ => [⟨Ty.bool, g95_0 x0⟩], kds := kds95 }
theorem con95 : Contract Tryz.prog 95 S95 := contract_of Tryz.func95 hb95 (Nat.le_of_ble_eq_true (by kernel_rfl)) (fun ⟨x0, _⟩ h _ K q => at95 x0 h K q)


end
end Go.Proofs.YtpoajfdfmiafnaaGreatDoor

/- Function 74 (slices.IndexFunc[[]byte,byte]): its runs between cut points. Written by a program of this repo (gen). -/
set_option linter.unusedVariables false
set_option linter.unusedSimpArgs false
set_option maxRecDepth 100000
namespace Go.Proofs.YtpoajfdfmiafnaaGreatDoor
open Go Go.Am Go.Proofs
noncomputable section
def ext74c95 : Ext := [(95, S95)]
theorem call74c95_95 : Callable Tryz.prog 95 := ⟨Tryz.f95, Tryz.func95, by kernel_rfl, by kernel_rfl⟩
theorem ext74c95Ok : ExtOk Tryz.prog ext74c95 := ⟨⟨call74c95_95, con95⟩, trivial⟩

noncomputable def b74c95 : Code := bodyOf Tryz.f74
theorem hb74c95 : Tryz.f74.body = some b74c95 := by kernel_rfl
def sig74c95 : List AT := [AT.v (Ty.sl (Ty.int IntKind.u8)), AT.fn 95 []]
def tys74c95 : List Ty := [Ty.int IntKind.i64]
def kds74c95 : List RK := []
def oks74c95 : List AT := owns sig74c95
def E74c95_2 (v8 : Int) (x0 : List Int) : Env := [(0, PV.a (Atom.sl (Ty.int IntKind.u8) x0)), (1, PV.fn 95 []), (7, PV.a (Atom.val (Value.int IntKind.i64 (↑(List.length x0) : Int)))), (8, PV.a (Atom.val (Value.int IntKind.i64 v8)))]
def L74c95_2 (v8 : Int) (x0 : List Int) : Heap := []
mutual
def R74c95 : Nat → List Int → List Dyn → Prop
  | 0, _, _ => False
  | n + 1, x0, ds => (R74c95_2 n (0) (x0) ds)
def R74c95_2 : Nat → Int → List Int → List Dyn → Prop
  | 0, _, _, _ => False
  | n + 1, v8, x0, ds => (if (Decidable.decide (v8 < (↑(List.length x0) : Int))) = true then ((0 ≤ v8) ∧ (v8 < (↑(List.length x0) : Int)) ∧ (if (g95_0 (List.getD x0 (Int.toNat v8) 0)) = true then (ds = [Dyn.mk (Ty.int IntKind.i64) v8]) else ((InR IntKind.i64 (v8 + 1)) ∧ (R74c95_2 n (v8 + 1) (x0) ds)))) else (ds = [Dyn.mk (Ty.int IntKind.i64) (-1)]))
end
theorem p74c95_0 (x0 : List Int) : Am.runN tab ext74c95 false 19 [] 2000 [] [] [0, 1, 7, 8] [] [] [.code b74c95] (entE 0 0 sig74c95 (x0, (), ())) (entL sig74c95 (x0, (), ())) = some (cutAt b74c95 2, E74c95_2 (0) (x0), L74c95_2 (0) (x0), []) := by kernel_rfl
theorem p74c95_1 (v8 : Int) (x0 : List Int) : runF tab ext74c95 false 19 [] 2000 [] oks74c95 kds74c95 tys74c95 Tryz.f74.results [true, true] (cutAt b74c95 2) (E74c95_2 v8 x0) (L74c95_2 v8 x0) = some ([Dyn.mk (Ty.int IntKind.i64) v8], [], [Decidable.decide (v8 < (↑(List.length x0) : Int)) = Bool.true, 0 ≤ v8, v8 < (↑(List.length x0) : Int), True, g95_0 (List.getD x0 (Int.toNat v8) 0) = Bool.true]) := by kernel_rfl
theorem p74c95_2 (v8 : Int) (x0 : List Int) : Am.runN tab ext74c95 false 19 [] 2000 [] [] [0, 1, 7, 8] [] [true, false] (cutAt b74c95 2) (E74c95_2 v8 x0) (L74c95_2 v8 x0) = some (cutAt b74c95 2, E74c95_2 (v8 + 1) (x0), L74c95_2 (v8 + 1) (x0), [Decidable.decide (v8 < (↑(List.length x0) : Int)) = Bool.true, 0 ≤ v8, v8 < (↑(List.length x0) : Int), True, g95_0 (List.getD x0 (Int.toNat v8) 0) = Bool.false, InR IntKind.i64 (v8 + 1)]) := by kernel_rfl
theorem p74c95_3 (v8 : Int) (x0 : List Int) : runF tab ext74c95 false 19 [] 2000 [] oks74c95 kds74c95 tys74c95 Tryz.f74.results [false] (cutAt b74c95 2) (E74c95_2 v8 x0) (L74c95_2 v8 x0) = some ([Dyn.mk (Ty.int IntKind.i64) (-1)], [], [Decidable.decide (v8 < (↑(List.length x0) : Int)) = Bool.false]) := by kernel_rfl
theorem snd74c95 : ∀ n, (∀ (x0 : List Int) ds, R74c95 n x0 ds → ∀ K q, AtV Tryz.prog 74 (PostR kds74c95 oks74c95 ds [] [] q K) 19 K q [] [.code b74c95] (entE 0 0 sig74c95 (x0, (), ())) (entL sig74c95 (x0, (), ()))) ∧ (∀ (v8 : Int) (x0 : List Int) ds, R74c95_2 n v8 x0 ds → ∀ K q, AtV Tryz.prog 74 (PostR kds74c95 oks74c95 ds [] [] q K) 19 K q [] (cutAt b74c95 2) (E74c95_2 v8 x0) (L74c95_2 v8 x0)) := by
  intro n
  induction n with
  | zero => exact ⟨fun _ _ h => by simp only [R74c95] at h, fun _ _ _ h => by simp only [R74c95_2] at h⟩
  | succ n ih =>
  obtain ⟨ih, ih2⟩ := ih
  refine ⟨?_, ?_⟩
  · intro x0 ds h K q
    rw [R74c95] at h
    exact AtV.runN tabOk ext74c95Ok mixed (p74c95_0 x0) trivial (ih2 _ _ _ h K q)

  · intro v8 x0 ds h K q
    rw [R74c95_2] at h
    by_cases b0 : (Decidable.decide (v8 < (↑(List.length x0) : Int))) = true
    · rw [if_pos b0] at h
      obtain ⟨s0, s1, h⟩ := h
      by_cases b1 : (g95_0 (List.getD x0 (Int.toNat v8) 0)) = true
      · rw [if_pos b1] at h
        subst h
        exact AtV.fin Tryz.func74 tabOk ext74c95Ok mixed (p74c95_1 v8 x0) ⟨b0, s0, s1, trivial, b1, trivial⟩
      · rw [if_neg b1] at h
        replace b1 := Bool.eq_false_iff.2 b1
        obtain ⟨s2, h⟩ := h
        exact AtV.runN tabOk ext74c95Ok mixed (p74c95_2 v8 x0) ⟨b0, s0, s1, trivial, b1, s2, trivial⟩ (ih2 _ _ _ h K q)
    · rw [if_neg b0] at h
      replace b0 := Bool.eq_false_iff.2 b0
      subst h
      exact AtV.fin Tryz.func74 tabOk ext74c95Ok mixed (p74c95_3 v8 x0) ⟨b0, trivial⟩



def g74c95_0 (x0 : List (Int)) : Int := idx (x0.findIdx? g95_0)
def P74c95 (x0 : List (Int)) : Prop := True

theorem top74c95 (x0 : List (Int)) (hm : x0.length ≤ maxLen) : R74c95 (x0.length + 1 + 1) x0 [⟨.int .i64, g74c95_0 x0⟩] := by
  rw [R74c95]
  have key := loop_find x0 (0 : Int) g95_0 [(⟨.int .i64, -1⟩ : Dyn)] (fun k => [⟨.int .i64, k⟩]) (fun n i ds => R74c95_2 n i x0 ds) (fun n => ?_) (fun n i hi hok ds hr => ?_) (fun n i hi hok => ?_)
  · unfold g74c95_0
    cases h : x0.findIdx? g95_0 <;> rw [h] at key <;> exact key
  · rw [R74c95_2, if_neg (by simp)]
  · rw [R74c95_2, if_pos (by simp; omega)]
    simp only [Int.toNat_natCast]
    refine ⟨by omega, by omega, ?_⟩
    rw [if_neg (by rw [hok]; simp)]
    exact ⟨inR_up hm hi, hr⟩
  · rw [R74c95_2, if_pos (by simp; omega)]
    simp only [Int.toNat_natCast]
    refine ⟨by omega, by omega, ?_⟩
    rw [if_pos hok] <;> trivial

def S74c95 : Am.Spec := { sig := sig74c95, pre := fun ⟨x0, _⟩ => P74c95 x0, res := fun ⟨x0, _⟩ => [⟨Ty.int .i64, g74c95_0 x0⟩] }
theorem con74c95 : Contract Tryz.prog 74 S74c95 := contract_of Tryz.func74 hb74c95 (Nat.le_of_ble_eq_true (by kernel_rfl)) (fun ⟨x0, _⟩ h hwf K q =>
  (snd74c95 _).1 x0 _ (top74c95 x0 hwf.1.1) K q)

theorem any74c95 (x0 : List (Int)) : decide (g74c95_0 x0 ≥ 0) = x0.any g95_0 := by
  have := findIdx_any g95_0 x0
  unfold g74c95_0
  cases h : x0.any g95_0 with
  | true => rw [h] at this; simpa using this
  | false => rw [h] at this; simpa using this

end
end Go.Proofs.YtpoajfdfmiafnaaGreatDoor

/- Function 51 (slices.ContainsFunc[[]byte,byte]): its runs between cut points. Written by a program of this repo (gen). -/
set_option linter.unusedVariables false
set_option linter.unusedSimpArgs false
set_option maxRecDepth 100000
namespace Go.Proofs.YtpoajfdfmiafnaaGreatDoor
open Go Go.Am Go.Proofs
noncomputable section
def ext51c95 : Ext := [(74, S74c95), (95, S95)]
theorem call51c95_74 : Callable Tryz.prog 74 := ⟨Tryz.f74, Tryz.func74, by kernel_rfl, by kernel_rfl⟩
theorem call51c95_95 : Callable Tryz.prog 95 := ⟨Tryz.f95, Tryz.func95, by kernel_rfl, by kernel_rfl⟩
theorem ext51c95Ok : ExtOk Tryz.prog ext51c95 := ⟨⟨call51c95_74, con74c95⟩, ⟨call51c95_95, con95⟩, trivial⟩

noncomputable def b51c95 : Code := bodyOf Tryz.f51
theorem hb51c95 : Tryz.f51.body = some b51c95 := by kernel_rfl
def sig51c95 : List AT := [AT.v (Ty.sl (Ty.int IntKind.u8)), AT.fn 95 []]
def tys51c95 : List Ty := [Ty.bool]
def kds51c95 : List RK := []
def oks51c95 : List AT := owns sig51c95
def P51c95 (x0 : List Int) : Prop := True
def g51c95_0 (x0 : List Int) : Bool := Decidable.decide (g74c95_0 x0 ≥ 0)
theorem p51c95_0 (x0 : List Int) : runF tab ext51c95 false 9 [] 2000 [] oks51c95 kds51c95 tys51c95 Tryz.f51.results [] [.code b51c95] (entE 0 0 sig51c95 (x0, (), ())) (entL sig51c95 (x0, (), ())) = some ([Dyn.mk Ty.bool (Decidable.decide (g74c95_0 x0 ≥ 0))], [], [True]) := by kernel_rfl
theorem at51c95 (x0 : List Int) (h : P51c95 x0) (K : Ctx) (q : Nat → Value) : AtV Tryz.prog 51 (PostR kds51c95 oks51c95 [⟨Ty.bool, g51c95_0 x0⟩] [] [] q K) 9 K q [] [.code b51c95] (entE 0 0 sig51c95 (x0, (), ())) (entL sig51c95 (x0, (), ())) := by
  unfold P51c95 at h
  unfold g51c95_0
  exact AtV.fin Tryz.func51 tabOk ext51c95Ok mixed (p51c95_0 x0) ⟨trivial, trivial⟩

def S51c95 : Am.Spec := { sig := sig51c95, pre := fun ⟨x0, _⟩ => P51c95 x0, res := fun ⟨x0, _⟩ => [⟨Ty.bool, g51c95_0 x0⟩], kds := kds51c95 }
theorem con51c95 : Contract Tryz.prog 51 S51c95 := contract_of Tryz.func51 hb51c95 (Nat.le_of_ble_eq_true (by kernel_rfl)) (fun ⟨x0, _⟩ h _ K q => at51c95 x0 h K q)


end
end Go.Proofs.YtpoajfdfmiafnaaGreatDoor

/- Function 84 (impl.isReportLine): its runs between cut points. Written by a program of this repo (gen). -/
set_option linter.unusedVariables false
set_option linter.unusedSimpArgs false
set_option maxRecDepth 100000
namespace Go.Proofs.YtpoajfdfmiafnaaGreatDoor
open Go Go.Am Go.Proofs
noncomputable section
def ext84 : Ext := [(51, S51c95)]
theorem call84_51 : Callable Tryz.prog 51 := ⟨Tryz.f51, Tryz.func51, by kernel_rfl, by kernel_rfl⟩
theorem ext84Ok : ExtOk Tryz.prog ext84 := ⟨⟨call84_51, con51c95⟩, trivial⟩

noncomputable def b84 : Code := bodyOf Tryz.f84
theorem hb84 : Tryz.f84.body = some b84 := by kernel_rfl
def sig84 : List AT := [AT.v (Ty.str)]
def tys84 : List Ty := [Ty.bool]
def kds84 : List RK := []
def oks84 : List AT := owns sig84
def P84 (x0 : ByteArray) : Prop := True
def g84_0 (x0 : ByteArray) : Bool := (if (Decidable.decide ((↑(ByteArray.size x0) : Int) ≤ 100)) = true then !g51c95_0 (bytesOf x0) else Bool.false)
theorem p84_0 (x0 : ByteArray) : runF tab ext84 false 12 [] 2000 [] oks84 kds84 tys84 Tryz.f84.results [true] [.code b84] (entE 0 0 sig84 (x0, ())) (entL sig84 (x0, ())) = some ([Dyn.mk Ty.bool !g51c95_0 (bytesOf x0)], [], [Decidable.decide ((↑(ByteArray.size x0) : Int) ≤ 100) = Bool.true, True]) := by kernel_rfl
theorem p84_1 (x0 : ByteArray) : runF tab ext84 false 12 [] 2000 [] oks84 kds84 tys84 Tryz.f84.results [false] [.code b84] (entE 0 0 sig84 (x0, ())) (entL sig84 (x0, ())) = some ([Dyn.mk Ty.bool Bool.false], [], [Decidable.decide ((↑(ByteArray.size x0) : Int) ≤ 100) = Bool.false]) := by kernel_rfl
theorem at84 (x0 : ByteArray) (h : P84 x0) (K : Ctx) (q : Nat → Value) : AtV Tryz.prog 84 (PostR kds84 oks84 [⟨Ty.bool, g84_0 x0⟩] [] [] q K) 12 K q [] [.code b84] (entE 0 0 sig84 (x0, ())) (entL sig84 (x0, ())) := by
  unfold P84 at h
  unfold g84_0
  by_cases b0 : (Decidable.decide ((↑(ByteArray.size x0) : Int) ≤ 100)) = true
  · try simp only [if_pos b0] at h ⊢
    exact AtV.fin Tryz.func84 tabOk ext84Ok mixed (p84_0 x0) ⟨b0, trivial, trivial⟩
  · try simp only [if_neg b0] at h ⊢
    replace b0 := Bool.eq_false_iff.2 b0
    exact AtV.fin Tryz.func84 tabOk ext84Ok mixed (p84_1 x0) ⟨b0, trivial⟩

def S84 : Am.Spec := { sig := sig84, pre := fun ⟨x0, _⟩ => P84 x0, res := fun ⟨x0, _⟩ => [⟨Ty.bool, g84_0 x0⟩], kds := kds84 }
theorem con84 : Contract Tryz.prog 84 S84 := contract_of Tryz.func84 hb84 (Nat.le_of_ble_eq_true (by kernel_rfl)) (fun ⟨x0, _⟩ h _ K q => at84 x0 h K q)


end
end Go.Proofs.YtpoajfdfmiafnaaGreatDoor

/- Function 83 (impl.ValidReport$1): its runs between cut points. Written by a program of this repo (gen). -/
set_option linter.unusedVariables false
set_option linter.unusedSimpArgs false
set_option maxRecDepth 100000
namespace Go.Proofs.YtpoajfdfmiafnaaGreatDoor
open Go Go.Am Go.Proofs
noncomputable section
def ext83 : Ext := [(84, S84)]
theorem call83_84 : Callable Tryz.prog 84 := ⟨Tryz.f84, Tryz.func84, by kernel_rfl, by kernel_rfl⟩
theorem ext83Ok : ExtOk Tryz.prog ext83 := ⟨⟨call83_84, con84⟩, trivial⟩

noncomputable def b83 : Code := bodyOf Tryz.f83
theorem hb83 : Tryz.f83.body = some b83 := by kernel_rfl
def sig83 : List AT := [AT.v (Ty.str)]
def tys83 : List Ty := [Ty.bool]
def kds83 : List RK := []
def oks83 : List AT := owns sig83
def P83 (x0 : ByteArray) : Prop := True
def g83_0 (x0 : ByteArray) : Bool := !g84_0 x0
theorem p83_0 (x0 : ByteArray) : runF tab ext83 false 6 [] 2000 [] oks83 kds83 tys83 Tryz.f83.results [] [.code b83] (entE 0 0 sig83 (x0, ())) (entL sig83 (x0, ())) = some ([Dyn.mk Ty.bool !g84_0 x0], [], [True]) := by kernel_rfl
theorem at83 (x0 : ByteArray) (h : P83 x0) (K : Ctx) (q : Nat → Value) : AtV Tryz.prog 83 (PostR kds83 oks83 [⟨Ty.bool, g83_0 x0⟩] [] [] q K) 6 K q [] [.code b83] (entE 0 0 sig83 (x0, ())) (entL sig83 (x0, ())) := by
  unfold P83 at h
  unfold g83_0
  exact AtV.fin Tryz.func83 tabOk ext83Ok mixed (p83_0 x0) ⟨trivial, trivial⟩

def S83 : Am.Spec := { sig := sig83, pre := fun ⟨x0, _⟩ => P83 x0, res := fun ⟨x0, _⟩ => [⟨Ty.bool, g83_0 x0⟩], kds := kds83 }
theorem con83 : Contract Tryz.prog 83 S83 := contract_of Tryz.func83 hb83 (Nat.le_of_ble_eq_true (by kernel_rfl)) (fun ⟨x0, _⟩ h _ K q => at83 x0 h K q)


end
end Go.Proofs.YtpoajfdfmiafnaaGreatDoor

/- Function 73 (slices.IndexFunc[[]string,string]): its runs between cut points. Written by a program of this repo (gen). -/
set_option linter.unusedVariables false
set_option linter.unusedSimpArgs false
set_option maxRecDepth 100000
namespace Go.Proofs.YtpoajfdfmiafnaaGreatDoor
open Go Go.Am Go.Proofs
noncomputable section
def ext73c83 : Ext := [(83, S83)]
theorem call73c83_83 : Callable Tryz.prog 83 := ⟨Tryz.f83, Tryz.func83, by kernel_rfl, by kernel_rfl⟩
theorem ext73c83Ok : ExtOk Tryz.prog ext73c83 := ⟨⟨call73c83_83, con83⟩, trivial⟩

noncomputable def b73c83 : Code := bodyOf Tryz.f73
theorem hb73c83 : Tryz.f73.body = some b73c83 := by kernel_rfl
def sig73c83 : List AT := [AT.v (Ty.sl Ty.str), AT.fn 83 []]
def tys73c83 : List Ty := [Ty.int IntKind.i64]
def kds73c83 : List RK := []
def oks73c83 : List AT := owns sig73c83
def E73c83_2 (v8 : Int) (x0 : List ByteArray) : Env := [(0, PV.a (Atom.sl Ty.str x0)), (1, PV.fn 83 []), (7, PV.a (Atom.val (Value.int IntKind.i64 (↑(List.length x0) : Int)))), (8, PV.a (Atom.val (Value.int IntKind.i64 v8)))]
def L73c83_2 (v8 : Int) (x0 : List ByteArray) : Heap := []
mutual
def R73c83 : Nat → List ByteArray → List Dyn → Prop
  | 0, _, _ => False
  | n + 1, x0, ds => (R73c83_2 n (0) (x0) ds)
def R73c83_2 : Nat → Int → List ByteArray → List Dyn → Prop
  | 0, _, _, _ => False
  | n + 1, v8, x0, ds => (if (Decidable.decide (v8 < (↑(List.length x0) : Int))) = true then ((0 ≤ v8) ∧ (v8 < (↑(List.length x0) : Int)) ∧ (if (g83_0 (List.getD x0 (Int.toNat v8) ByteArray.empty)) = true then (ds = [Dyn.mk (Ty.int IntKind.i64) v8]) else ((InR IntKind.i64 (v8 + 1)) ∧ (R73c83_2 n (v8 + 1) (x0) ds)))) else (ds = [Dyn.mk (Ty.int IntKind.i64) (-1)]))
end
theorem p73c83_0 (x0 : List ByteArray) : Am.runN tab ext73c83 false 19 [] 2000 [] [] [0, 1, 7, 8] [] [] [.code b73c83] (entE 0 0 sig73c83 (x0, (), ())) (entL sig73c83 (x0, (), ())) = some (cutAt b73c83 2, E73c83_2 (0) (x0), L73c83_2 (0) (x0), []) := by kernel_rfl
theorem p73c83_1 (v8 : Int) (x0 : List ByteArray) : runF tab ext73c83 false 19 [] 2000 [] oks73c83 kds73c83 tys73c83 Tryz.f73.results [true, true] (cutAt b73c83 2) (E73c83_2 v8 x0) (L73c83_2 v8 x0) = some ([Dyn.mk (Ty.int IntKind.i64) v8], [], [Decidable.decide (v8 < (↑(List.length x0) : Int)) = Bool.true, 0 ≤ v8, v8 < (↑(List.length x0) : Int), True, g83_0 (List.getD x0 (Int.toNat v8) ByteArray.empty) = Bool.true]) := by kernel_rfl
theorem p73c83_2 (v8 : Int) (x0 : List ByteArray) : Am.runN tab ext73c83 false 19 [] 2000 [] [] [0, 1, 7, 8] [] [true, false] (cutAt b73c83 2) (E73c83_2 v8 x0) (L73c83_2 v8 x0) = some (cutAt b73c83 2, E73c83_2 (v8 + 1) (x0), L73c83_2 (v8 + 1) (x0), [Decidable.decide (v8 < (↑(List.length x0) : Int)) = Bool.true, 0 ≤ v8, v8 < (↑(List.length x0) : Int), True, g83_0 (List.getD x0 (Int.toNat v8) ByteArray.empty) = Bool.false, InR IntKind.i64 (v8 + 1)]) := by kernel_rfl
theorem p73c83_3 (v8 : Int) (x0 : List ByteArray) : runF tab ext73c83 false 19 [] 2000 [] oks73c83 kds73c83 tys73c83 Tryz.f73.results [false] (cutAt b73c83 2) (E73c83_2 v8 x0) (L73c83_2 v8 x0) = some ([Dyn.mk (Ty.int IntKind.i64) (-1)], [], [Decidable.decide (v8 < (↑(List.length x0) : Int)) = Bool.false]) := by kernel_rfl
theorem snd73c83 : ∀ n, (∀ (x0 : List ByteArray) ds, R73c83 n x0 ds → ∀ K q, AtV Tryz.prog 73 (PostR kds73c83 oks73c83 ds [] [] q K) 19 K q [] [.code b73c83] (entE 0 0 sig73c83 (x0, (), ())) (entL sig73c83 (x0, (), ()))) ∧ (∀ (v8 : Int) (x0 : List ByteArray) ds, R73c83_2 n v8 x0 ds → ∀ K q, AtV Tryz.prog 73 (PostR kds73c83 oks73c83 ds [] [] q K) 19 K q [] (cutAt b73c83 2) (E73c83_2 v8 x0) (L73c83_2 v8 x0)) := by
  intro n
  induction n with
  | zero => exact ⟨fun _ _ h => by simp only [R73c83] at h, fun _ _ _ h => by simp only [R73c83_2] at h⟩
  | succ n ih =>
  obtain ⟨ih, ih2⟩ := ih
  refine ⟨?_, ?_⟩
  · intro x0 ds h K q
    rw [R73c83] at h
    exact AtV.runN tabOk ext73c83Ok mixed (p73c83_0 x0) trivial (ih2 _ _ _ h K q)

  · intro v8 x0 ds h K q
    rw [R73c83_2] at h
    by_cases b0 : (Decidable.decide (v8 < (↑(List.length x0) : Int))) = true
    · rw [if_pos b0] at h
      obtain ⟨s0, s1, h⟩ := h
      by_cases b1 : (g83_0 (List.getD x0 (Int.toNat v8) ByteArray.empty)) = true
      · rw [if_pos b1] at h
        subst h
        exact AtV.fin Tryz.func73 tabOk ext73c83Ok mixed (p73c83_1 v8 x0) ⟨b0, s0, s1, trivial, b1, trivial⟩
      · rw [if_neg b1] at h
        replace b1 := Bool.eq_false_iff.2 b1
        obtain ⟨s2, h⟩ := h
        exact AtV.runN tabOk ext73c83Ok mixed (p73c83_2 v8 x0) ⟨b0, s0, s1, trivial, b1, s2, trivial⟩ (ih2 _ _ _ h K q)
    · rw [if_neg b0] at h
      replace b0 := Bool.eq_false_iff.2 b0
      subst h
      exact AtV.fin Tryz.func73 tabOk ext73c83Ok mixed (p73c83_3 v8 x0) ⟨b0, trivial⟩



def g73c83_0 (x0 : List (ByteArray)) : Int := idx (x0.findIdx? g83_0)
def P73c83 (x0 : List (ByteArray)) : Prop := True

theorem top73c83 (x0 : List (ByteArray)) (hm : x0.length ≤ maxLen) : R73c83 (x0.length + 1 + 1) x0 [⟨.int .i64, g73c83_0 x0⟩] := by
  rw [R73c83]
  have key := loop_find x0 ByteArray.empty g83_0 [(⟨.int .i64, -1⟩ : Dyn)] (fun k => [⟨.int .i64, k⟩]) (fun n i ds => R73c83_2 n i x0 ds) (fun n => ?_) (fun n i hi hok ds hr => ?_) (fun n i hi hok => ?_)
  · unfold g73c83_0
    cases h : x0.findIdx? g83_0 <;> rw [h] at key <;> exact key
  · rw [R73c83_2, if_neg (by simp)]
  · rw [R73c83_2, if_pos (by simp; omega)]
    simp only [Int.toNat_natCast]
    refine ⟨by omega, by omega, ?_⟩
    rw [if_neg (by rw [hok]; simp)]
    exact ⟨inR_up hm hi, hr⟩
  · rw [R73c83_2, if_pos (by simp; omega)]
    simp only [Int.toNat_natCast]
    refine ⟨by omega, by omega, ?_⟩
    rw [if_pos hok] <;> trivial

def S73c83 : Am.Spec := { sig := sig73c83, pre := fun ⟨x0, _⟩ => P73c83 x0, res := fun ⟨x0, _⟩ => [⟨Ty.int .i64, g73c83_0 x0⟩] }
theorem con73c83 : Contract Tryz.prog 73 S73c83 := contract_of Tryz.func73 hb73c83 (Nat.le_of_ble_eq_true (by kernel_rfl)) (fun ⟨x0, _⟩ h hwf K q =>
  (snd73c83 _).1 x0 _ (top73c83 x0 hwf.1.1) K q)

theorem any73c83 (x0 : List (ByteArray)) : decide (g73c83_0 x0 ≥ 0) = x0.any g83_0 := by
  have := findIdx_any g83_0 x0
  unfold g73c83_0
  cases h : x0.any g83_0 with
  | true => rw [h] at this; simpa using this
  | false => rw [h] at this; simpa using this

end
end Go.Proofs.YtpoajfdfmiafnaaGreatDoor

/- Function 49 (slices.ContainsFunc[[]string,string]): its runs between cut points. Written by a program of this repo (gen). -/
set_option linter.unusedVariables false
set_option linter.unusedSimpArgs false
set_option maxRecDepth 100000
namespace Go.Proofs.YtpoajfdfmiafnaaGreatDoor
open Go Go.Am Go.Proofs
noncomputable section
def ext49c83 : Ext := [(73, S73c83), (83, S83)]
theorem call49c83_73 : Callable Tryz.prog 73 := ⟨Tryz.f73, Tryz.func73, by kernel_rfl, by kernel_rfl⟩
theorem call49c83_83 : Callable Tryz.prog 83 := ⟨Tryz.f83, Tryz.func83, by kernel_rfl, by kernel_rfl⟩
theorem ext49c83Ok : ExtOk Tryz.prog ext49c83 := ⟨⟨call49c83_73, con73c83⟩, ⟨call49c83_83, con83⟩, trivial⟩

noncomputable def b49c83 : Code := bodyOf Tryz.f49
theorem hb49c83 : Tryz.f49.body = some b49c83 := by kernel_rfl
def sig49c83 : List AT := [AT.v (Ty.sl Ty.str), AT.fn 83 []]
def tys49c83 : List Ty := [Ty.bool]
def kds49c83 : List RK := []
def oks49c83 : List AT := owns sig49c83
def P49c83 (x0 : List ByteArray) : Prop := True
def g49c83_0 (x0 : List ByteArray) : Bool := Decidable.decide (g73c83_0 x0 ≥ 0)
theorem p49c83_0 (x0 : List ByteArray) : runF tab ext49c83 false 9 [] 2000 [] oks49c83 kds49c83 tys49c83 Tryz.f49.results [] [.code b49c83] (entE 0 0 sig49c83 (x0, (), ())) (entL sig49c83 (x0, (), ())) = some ([Dyn.mk Ty.bool (Decidable.decide (g73c83_0 x0 ≥ 0))], [], [True]) := by kernel_rfl
theorem at49c83 (x0 : List ByteArray) (h : P49c83 x0) (K : Ctx) (q : Nat → Value) : AtV Tryz.prog 49 (PostR kds49c83 oks49c83 [⟨Ty.bool, g49c83_0 x0⟩] [] [] q K) 9 K q [] [.code b49c83] (entE 0 0 sig49c83 (x0, (), ())) (entL sig49c83 (x0, (), ())) := by
  unfold P49c83 at h
  unfold g49c83_0
  exact AtV.fin Tryz.func49 tabOk ext49c83Ok mixed (p49c83_0 x0) ⟨trivial, trivial⟩

def S49c83 : Am.Spec := { sig := sig49c83, pre := fun ⟨x0, _⟩ => P49c83 x0, res := fun ⟨x0, _⟩ => [⟨Ty.bool, g49c83_0 x0⟩], kds := kds49c83 }
theorem con49c83 : Contract Tryz.prog 49 S49c83 := contract_of Tryz.func49 hb49c83 (Nat.le_of_ble_eq_true (by kernel_rfl)) (fun ⟨x0, _⟩ h _ K q => at49c83 x0 h K q)


end
end Go.Proofs.YtpoajfdfmiafnaaGreatDoor

/- Function 63 (impl.ValidReport): its runs between cut points. Written by a program of this repo (gen). -/
set_option linter.unusedVariables false
set_option linter.unusedSimpArgs false
set_option maxRecDepth 100000
namespace Go.Proofs.YtpoajfdfmiafnaaGreatDoor
open Go Go.Am Go.Proofs
noncomputable section
def ext63 : Ext := [(49, S49c83)]
theorem call63_49 : Callable Tryz.prog 49 := ⟨Tryz.f49, Tryz.func49, by kernel_rfl, by kernel_rfl⟩
theorem ext63Ok : ExtOk Tryz.prog ext63 := ⟨⟨call63_49, con49c83⟩, trivial⟩

noncomputable def b63 : Code := bodyOf Tryz.f63
theorem hb63 : Tryz.f63.body = some b63 := by kernel_rfl
def sig63 : List AT := [AT.v (Ty.sl Ty.str)]
def tys63 : List Ty := [Ty.bool]
def kds63 : List RK := []
def oks63 : List AT := owns sig63
def P63 (x0 : List ByteArray) : Prop := True
def g63_0 (x0 : List ByteArray) : Bool := (if (Decidable.decide ((↑(List.length x0) : Int) ≤ 200)) = true then !g49c83_0 x0 else Bool.false)
theorem p63_0 (x0 : List ByteArray) : runF tab ext63 false 11 [] 2000 [] oks63 kds63 tys63 Tryz.f63.results [true] [.code b63] (entE 0 0 sig63 (x0, ())) (entL sig63 (x0, ())) = some ([Dyn.mk Ty.bool !g49c83_0 x0], [], [Decidable.decide ((↑(List.length x0) : Int) ≤ 200) = Bool.true, True]) := by kernel_rfl
theorem p63_1 (x0 : List ByteArray) : runF tab ext63 false 11 [] 2000 [] oks63 kds63 tys63 Tryz.f63.results [false] [.code b63] (entE 0 0 sig63 (x0, ())) (entL sig63 (x0, ())) = some ([Dyn.mk Ty.bool Bool.false], [], [Decidable.decide ((↑(List.length x0) : Int) ≤ 200) = Bool.false]) := by kernel_rfl
theorem at63 (x0 : List ByteArray) (h : P63 x0) (K : Ctx) (q : Nat → Value) : AtV Tryz.prog 63 (PostR kds63 oks63 [⟨Ty.bool, g63_0 x0⟩] [] [] q K) 11 K q [] [.code b63] (entE 0 0 sig63 (x0, ())) (entL sig63 (x0, ())) := by
  unfold P63 at h
  unfold g63_0
  by_cases b0 : (Decidable.decide ((↑(List.length x0) : Int) ≤ 200)) = true
  · try simp only [if_pos b0] at h ⊢
    exact AtV.fin Tryz.func63 tabOk ext63Ok mixed (p63_0 x0) ⟨b0, trivial, trivial⟩
  · try simp only [if_neg b0] at h ⊢
    replace b0 := Bool.eq_false_iff.2 b0
    exact AtV.fin Tryz.func63 tabOk ext63Ok mixed (p63_1 x0) ⟨b0, trivial⟩

def S63 : Am.Spec := { sig := sig63, pre := fun ⟨x0, _⟩ => P63 x0, res := fun ⟨x0, _⟩ => [⟨Ty.bool, g63_0 x0⟩], kds := kds63 }
theorem con63 : Contract Tryz.prog 63 S63 := contract_of Tryz.func63 hb63 (Nat.le_of_ble_eq_true (by kernel_rfl)) (fun ⟨x0, _⟩ h _ K q => at63 x0 h K q)


end
end Go.Proofs.YtpoajfdfmiafnaaGreatDoor

/- Function 40 (impl.orFull): its runs between cut points. Written by a program of this repo (gen). -/
set_option linter.unusedVariables false
set_option linter.unusedSimpArgs false
set_option maxRecDepth 100000
namespace Go.Proofs.YtpoajfdfmiafnaaGreatDoor
open Go Go.Am Go.Proofs
noncomputable section
def ext40 : Ext := [(63, S63)]
theorem call40_63 : Callable Tryz.prog 63 := ⟨Tryz.f63, Tryz.func63, by kernel_rfl, by kernel_rfl⟩
theorem ext40Ok : ExtOk Tryz.prog ext40 := ⟨⟨call40_63, con63⟩, trivial⟩

noncomputable def b40 : Code := bodyOf Tryz.f40
theorem hb40 : Tryz.f40.body = some b40 := by kernel_rfl
def sig40 : List AT := [AT.own Ty.str]
def tys40 : List Ty := [Ty.sl Ty.str, Ty.int IntKind.i64]
def kds40 : List RK := []
def oks40 : List AT := owns sig40
def P40 (x0 : List ByteArray) : Prop := True
def g40_0 (x0 : List ByteArray) : List ByteArray := (if (!g63_0 x0) = true then [] else x0)
def g40_1 (x0 : List ByteArray) : Int := (if (!g63_0 x0) = true then 5 else 0)
theorem p40_0 (x0 : List ByteArray) : runF tab ext40 false 8 [] 2000 [0] oks40 kds40 tys40 Tryz.f40.results [true] [.code b40] (entE 0 0 sig40 (x0, ())) (entL sig40 (x0, ())) = some ([Dyn.mk (Ty.sl Ty.str) [], Dyn.mk (Ty.int IntKind.i64) 5], [Option.some (Lst.mk Ty.str x0)], [True, (!g63_0 x0) = Bool.true]) := by kernel_rfl
theorem p40_1 (x0 : List ByteArray) : runF tab ext40 false 8 [] 2000 [0] oks40 kds40 tys40 Tryz.f40.results [false] [.code b40] (entE 0 0 sig40 (x0, ())) (entL sig40 (x0, ())) = some ([Dyn.mk (Ty.sl Ty.str) x0, Dyn.mk (Ty.int IntKind.i64) 0], [Option.none], [True, (!g63_0 x0) = Bool.false]) := by kernel_rfl
theorem at40 (x0 : List ByteArray) (h : P40 x0) (K : Ctx) (q : Nat → Value) : AtV Tryz.prog 40 (PostR kds40 oks40 [⟨Ty.sl Ty.str, g40_0 x0⟩, ⟨Ty.int IntKind.i64, g40_1 x0⟩] [none] [0] q K) 8 K q [0] [.code b40] (entE 0 0 sig40 (x0, ())) (entL sig40 (x0, ())) := by
  unfold P40 at h
  unfold g40_0 g40_1
  by_cases b0 : (!g63_0 x0) = true
  · try simp only [if_pos b0] at h ⊢
    exact AtV.weak (AtV.fin Tryz.func40 tabOk ext40Ok mixed (p40_0 x0) ⟨trivial, b0, trivial⟩) ⟨.inr rfl, trivial⟩
  · try simp only [if_neg b0] at h ⊢
    replace b0 := Bool.eq_false_iff.2 b0
    exact AtV.weak (AtV.fin Tryz.func40 tabOk ext40Ok mixed (p40_1 x0) ⟨trivial, b0, trivial⟩) ⟨.inr rfl, trivial⟩

def S40 : Am.Spec := { sig := sig40, pre := fun ⟨x0, _⟩ => P40 x0, upd := fun ⟨x0, _⟩ => [none], res := fun ⟨x0, _⟩ => [⟨Ty.sl Ty.str, g40_0 x0⟩, ⟨Ty.int IntKind.i64, g40_1 x0⟩], kds := kds40 }
theorem con40 : Contract Tryz.prog 40 S40 := contract_of Tryz.func40 hb40 (Nat.le_of_ble_eq_true (by kernel_rfl)) (fun ⟨x0, _⟩ h _ K q => at40 x0 h K q)


end
end Go.Proofs.YtpoajfdfmiafnaaGreatDoor

/- Function 52 (impl.areCells$1$1): its runs between cut points. Written by a program of this repo (gen). -/
set_option linter.unusedVariables false
set_option linter.unusedSimpArgs false
set_option maxRecDepth 100000
namespace Go.Proofs.YtpoajfdfmiafnaaGreatDoor
open Go Go.Am Go.Proofs
noncomputable section
def ext52 : Ext := []
theorem ext52Ok : ExtOk Tryz.prog ext52 := trivial

noncomputable def b52 : Code := bodyOf Tryz.f52
theorem hb52 : Tryz.f52.body = some b52 := by kernel_rfl
def sig52 : List AT := [AT.v (Ty.int IntKind.u8)]
def tys52 : List Ty := [Ty.bool]
def kds52 : List RK := []
def oks52 : List AT := owns sig52
def P52 (x0 : Int) : Prop := True
def g52_0 (x0 : Int) : Bool := (if (Decidable.decide (x0 < 33)) = true then Bool.true else Decidable.decide (x0 > 126))
theorem p52_0 (x0 : Int) : runF tab ext52 false 9 [] 2000 [] oks52 kds52 tys52 Tryz.f52.results [true] [.code b52] (entE 0 0 sig52 (x0, ())) (entL sig52 (x0, ())) = some ([Dyn.mk Ty.bool Bool.true], [], [Decidable.decide (x0 < 33) = Bool.true]) := by kernel_rfl
theorem p52_1 (x0 : Int) : runF tab ext52 false 9 [] 2000 [] oks52 kds52 tys52 Tryz.f52.results [false] [.code b52] (entE 0 0 sig52 (x0, ())) (entL sig52 (x0, ())) = some ([Dyn.mk Ty.bool (Decidable.decide (x0 > 126))], [], [Decidable.decide (x0 < 33) = Bool.false]) := by kernel_rfl
theorem at52 (x0 : Int) (h : P52 x0) (K : Ctx) (q : Nat → Value) : AtV Tryz.prog 52 (PostR kds52 oks52 [⟨Ty.bool, g52_0 x0⟩] [] [] q K) 9 K q [] [.code b52] (entE 0 0 sig52 (x0, ())) (entL sig52 (x0, ())) := by
  unfold P52 at h
  unfold g52_0
  by_cases b0 : (Decidable.decide (x0 < 33)) = true
  · try simp only [if_pos b0] at h ⊢
    exact AtV.fin Tryz.func52 tabOk ext52Ok mixed (p52_0 x0) ⟨b0, trivial⟩
  · try simp only [if_neg b0] at h ⊢
    replace b0 := Bool.eq_false_iff.2 b0
    exact AtV.fin Tryz.func52 tabOk ext52Ok mixed (p52_1 x0) ⟨b0, trivial⟩

def S52 : Am.Spec := { sig := sig52, pre := fun ⟨x0, _⟩ => P52 x0, res := fun ⟨x0, _⟩ => [⟨Ty.bool, g52_0 x0⟩], kds := kds52 }
theorem con52 : Contract Tryz.prog 52 S52 := contract_of Tryz.func52 hb52 (Nat.le_of_ble_eq_true (by kernel_rfl)) (fun ⟨x0, _⟩ h _ K q => at52 x0 h K q)


end
end Go.Proofs.YtpoajfdfmiafnaaGreatDoor

/- Function 74 (slices.IndexFunc[[]byte,byte]): its runs between cut points. Written by a program of this repo (gen). -/
set_option linter.unusedVariables false
set_option linter.unusedSimpArgs false
set_option maxRecDepth 100000
namespace Go.Proofs.YtpoajfdfmiafnaaGreatDoor
open Go Go.Am Go.Proofs
noncomputable section
def ext74c52 : Ext := [(52, S52)]
theorem call74c52_52 : Callable Tryz.prog 52 := ⟨Tryz.f52, Tryz.func52, by kernel_rfl, by kernel_rfl⟩
theorem ext74c52Ok : ExtOk Tryz.prog ext74c52 := ⟨⟨call74c52_52, con52⟩, trivial⟩

noncomputable def b74c52 : Code := bodyOf Tryz.f74
theorem hb74c52 : Tryz.f74.body = some b74c52 := by kernel_rfl
def sig74c52 : List AT := [AT.v (Ty.sl (Ty.int IntKind.u8)), AT.fn 52 []]
def tys74c52 : List Ty := [Ty.int IntKind.i64]
def kds74c52 : List RK := []
def oks74c52 : List AT := owns sig74c52
def E74c52_2 (v8 : Int) (x0 : List Int) : Env := [(0, PV.a (Atom.sl (Ty.int IntKind.u8) x0)), (1, PV.fn 52 []), (7, PV.a (Atom.val (Value.int IntKind.i64 (↑(List.length x0) : Int)))), (8, PV.a (Atom.val (Value.int IntKind.i64 v8)))]
def L74c52_2 (v8 : Int) (x0 : List Int) : Heap := []
mutual
def R74c52 : Nat → List Int → List Dyn → Prop
  | 0, _, _ => False
  | n + 1, x0, ds => (R74c52_2 n (0) (x0) ds)
def R74c52_2 : Nat → Int → List Int → List Dyn → Prop
  | 0, _, _, _ => False
  | n + 1, v8, x0, ds => (if (Decidable.decide (v8 < (↑(List.length x0) : Int))) = true then ((0 ≤ v8) ∧ (v8 < (↑(List.length x0) : Int)) ∧ (if (g52_0 (List.getD x0 (Int.toNat v8) 0)) = true then (ds = [Dyn.mk (Ty.int IntKind.i64) v8]) else ((InR IntKind.i64 (v8 + 1)) ∧ (R74c52_2 n (v8 + 1) (x0) ds)))) else (ds = [Dyn.mk (Ty.int IntKind.i64) (-1)]))
end
theorem p74c52_0 (x0 : List Int) : Am.runN tab ext74c52 false 19 [] 2000 [] [] [0, 1, 7, 8] [] [] [.code b74c52] (entE 0 0 sig74c52 (x0, (), ())) (entL sig74c52 (x0, (), ())) = some (cutAt b74c52 2, E74c52_2 (0) (x0), L74c52_2 (0) (x0), []) := by kernel_rfl
theorem p74c52_1 (v8 : Int) (x0 : List Int) : runF tab ext74c52 false 19 [] 2000 [] oks74c52 kds74c52 tys74c52 Tryz.f74.results [true, true] (cutAt b74c52 2) (E74c52_2 v8 x0) (L74c52_2 v8 x0) = some ([Dyn.mk (Ty.int IntKind.i64) v8], [], [Decidable.decide (v8 < (↑(List.length x0) : Int)) = Bool.true, 0 ≤ v8, v8 < (↑(List.length x0) : Int), True, g52_0 (List.getD x0 (Int.toNat v8) 0) = Bool.true]) := by kernel_rfl
theorem p74c52_2 (v8 : Int) (x0 : List Int) : Am.runN tab ext74c52 false 19 [] 2000 [] [] [0, 1, 7, 8] [] [true, false] (cutAt b74c52 2) (E74c52_2 v8 x0) (L74c52_2 v8 x0) = some (cutAt b74c52 2, E74c52_2 (v8 + 1) (x0), L74c52_2 (v8 + 1) (x0), [Decidable.decide (v8 < (↑(List.length x0) : Int)) = Bool.true, 0 ≤ v8, v8 < (↑(List.length x0) : Int), True, g52_0 (List.getD x0 (Int.toNat v8) 0) = Bool.false, InR IntKind.i64 (v8 + 1)]) := by kernel_rfl
theorem p74c52_3 (v8 : Int) (x0 : List Int) : runF tab ext74c52 false 19 [] 2000 [] oks74c52 kds74c52 tys74c52 Tryz.f74.results [false] (cutAt b74c52 2) (E74c52_2 v8 x0) (L74c52_2 v8 x0) = some ([Dyn.mk (Ty.int IntKind.i64) (-1)], [], [Decidable.decide (v8 < (↑(List.length x0) : Int)) = Bool.false]) := by kernel_rfl
theorem snd74c52 : ∀ n, (∀ (x0 : List Int) ds, R74c52 n x0 ds → ∀ K q, AtV Tryz.prog 74 (PostR kds74c52 oks74c52 ds [] [] q K) 19 K q [] [.code b74c52] (entE 0 0 sig74c52 (x0, (), ())) (entL sig74c52 (x0, (), ()))) ∧ (∀ (v8 : Int) (x0 : List Int) ds, R74c52_2 n v8 x0 ds → ∀ K q, AtV Tryz.prog 74 (PostR kds74c52 oks74c52 ds [] [] q K) 19 K q [] (cutAt b74c52 2) (E74c52_2 v8 x0) (L74c52_2 v8 x0)) := by
  intro n
  induction n with
  | zero => exact ⟨fun _ _ h => by simp only [R74c52] at h, fun _ _ _ h => by simp only [R74c52_2] at h⟩
  | succ n ih =>
  obtain ⟨ih, ih2⟩ := ih
  refine ⟨?_, ?_⟩
  · intro x0 ds h K q
    rw [R74c52] at h
    exact AtV.runN tabOk ext74c52Ok mixed (p74c52_0 x0) trivial (ih2 _ _ _ h K q)

  · intro v8 x0 ds h K q
    rw [R74c52_2] at h
    by_cases b0 : (Decidable.decide (v8 < (↑(List.length x0) : Int))) = true
    · rw [if_pos b0] at h
      obtain ⟨s0, s1, h⟩ := h
      by_cases b1 : (g52_0 (List.getD x0 (Int.toNat v8) 0)) = true
      · rw [if_pos b1] at h
        subst h
        exact AtV.fin Tryz.func74 tabOk ext74c52Ok mixed (p74c52_1 v8 x0) ⟨b0, s0, s1, trivial, b1, trivial⟩
      · rw [if_neg b1] at h
        replace b1 := Bool.eq_false_iff.2 b1
        obtain ⟨s2, h⟩ := h
        exact AtV.runN tabOk ext74c52Ok mixed (p74c52_2 v8 x0) ⟨b0, s0, s1, trivial, b1, s2, trivial⟩ (ih2 _ _ _ h K q)
    · rw [if_neg b0] at h
      replace b0 := Bool.eq_false_iff.2 b0
      subst h
      exact AtV.fin Tryz.func74 tabOk ext74c52Ok mixed (p74c52_3 v8 x0) ⟨b0, trivial⟩



def g74c52_0 (x0 : List (Int)) : Int := idx (x0.findIdx? g52_0)
def P74c52 (x0 : List (Int)) : Prop := True

theorem top74c52 (x0 : List (Int)) (hm : x0.length ≤ maxLen) : R74c52 (x0.length + 1 + 1) x0 [⟨.int .i64, g74c52_0 x0⟩] := by
  rw [R74c52]
  have key := loop_find x0 (0 : Int) g52_0 [(⟨.int .i64, -1⟩ : Dyn)] (fun k => [⟨.int .i64, k⟩]) (fun n i ds => R74c52_2 n i x0 ds) (fun n => ?_) (fun n i hi hok ds hr => ?_) (fun n i hi hok => ?_)
  · unfold g74c52_0
    cases h : x0.findIdx? g52_0 <;> rw [h] at key <;> exact key
  · rw [R74c52_2, if_neg (by simp)]
  · rw [R74c52_2, if_pos (by simp; omega)]
    simp only [Int.toNat_natCast]
    refine ⟨by omega, by omega, ?_⟩
    rw [if_neg (by rw [hok]; simp)]
    exact ⟨inR_up hm hi, hr⟩
  · rw [R74c52_2, if_pos (by simp; omega)]
    simp only [Int.toNat_natCast]
    refine ⟨by omega, by omega, ?_⟩
    rw [if_pos hok] <;> trivial

def S74c52 : Am.Spec := { sig := sig74c52, pre := fun ⟨x0, _⟩ => P74c52 x0, res := fun ⟨x0, _⟩ => [⟨Ty.int .i64, g74c52_0 x0⟩] }
theorem con74c52 : Contract Tryz.prog 74 S74c52 := contract_of Tryz.func74 hb74c52 (Nat.le_of_ble_eq_true (by kernel_rfl)) (fun ⟨x0, _⟩ h hwf K q =>
  (snd74c52 _).1 x0 _ (top74c52 x0 hwf.1.1) K q)

theorem any74c52 (x0 : List (Int)) : decide (g74c52_0 x0 ≥ 0) = x0.any g52_0 := by
  have := findIdx_any g52_0 x0
  unfold g74c52_0
  cases h : x0.any g52_0 with
  | true => rw [h] at this; simpa using this
  | false => rw [h] at this; simpa using this

end
end Go.Proofs.YtpoajfdfmiafnaaGreatDoor

/- Function 51 (slices.ContainsFunc[[]byte,byte]): its runs between cut points. Written by a program of this repo (gen). -/
set_option linter.unusedVariables false
set_option linter.unusedSimpArgs false
set_option maxRecDepth 100000
namespace Go.Proofs.YtpoajfdfmiafnaaGreatDoor
open Go Go.Am Go.Proofs
noncomputable section
def ext51c52 : Ext := [(74, S74c52), (52, S52)]
theorem call51c52_74 : Callable Tryz.prog 74 := ⟨Tryz.f74, Tryz.func74, by kernel_rfl, by kernel_rfl⟩
theorem call51c52_52 : Callable Tryz.prog 52 := ⟨Tryz.f52, Tryz.func52, by kernel_rfl, by kernel_rfl⟩
theorem ext51c52Ok : ExtOk Tryz.prog ext51c52 := ⟨⟨call51c52_74, con74c52⟩, ⟨call51c52_52, con52⟩, trivial⟩

noncomputable def b51c52 : Code := bodyOf Tryz.f51
theorem hb51c52 : Tryz.f51.body = some b51c52 := by kernel_rfl
def sig51c52 : List AT := [AT.v (Ty.sl (Ty.int IntKind.u8)), AT.fn 52 []]
def tys51c52 : List Ty := [Ty.bool]
def kds51c52 : List RK := []
def oks51c52 : List AT := owns sig51c52
def P51c52 (x0 : List Int) : Prop := True
def g51c52_0 (x0 : List Int) : Bool := Decidable.decide (g74c52_0 x0 ≥ 0)
theorem p51c52_0 (x0 : List Int) : runF tab ext51c52 false 9 [] 2000 [] oks51c52 kds51c52 tys51c52 Tryz.f51.results [] [.code b51c52] (entE 0 0 sig51c52 (x0, (), ())) (entL sig51c52 (x0, (), ())) = some ([Dyn.mk Ty.bool (Decidable.decide (g74c52_0 x0 ≥ 0))], [], [True]) := by kernel_rfl
theorem at51c52 (x0 : List Int) (h : P51c52 x0) (K : Ctx) (q : Nat → Value) : AtV Tryz.prog 51 (PostR kds51c52 oks51c52 [⟨Ty.bool, g51c52_0 x0⟩] [] [] q K) 9 K q [] [.code b51c52] (entE 0 0 sig51c52 (x0, (), ())) (entL sig51c52 (x0, (), ())) := by
  unfold P51c52 at h
  unfold g51c52_0
  exact AtV.fin Tryz.func51 tabOk ext51c52Ok mixed (p51c52_0 x0) ⟨trivial, trivial⟩

def S51c52 : Am.Spec := { sig := sig51c52, pre := fun ⟨x0, _⟩ => P51c52 x0, res := fun ⟨x0, _⟩ => [⟨Ty.bool, g51c52_0 x0⟩], kds := kds51c52 }
theorem con51c52 : Contract Tryz.prog 51 S51c52 := contract_of Tryz.func51 hb51c52 (Nat.le_of_ble_eq_true (by kernel_rfl)) (fun ⟨x0, _⟩ h _ K q => at51c52 x0 h K q)


end
end Go.Proofs.YtpoajfdfmiafnaaGreatDoor

/- Function 50 (impl.areCells$1): its runs between cut points. Written by a program of this repo (gen). -/
set_option linter.unusedVariables false
set_option linter.unusedSimpArgs false
set_option maxRecDepth 100000
namespace Go.Proofs.YtpoajfdfmiafnaaGreatDoor
open Go Go.Am Go.Proofs
noncomputable section
def ext50 : Ext := [(51, S51c52)]
theorem call50_51 : Callable Tryz.prog 51 := ⟨Tryz.f51, Tryz.func51, by kernel_rfl, by kernel_rfl⟩
theorem ext50Ok : ExtOk Tryz.prog ext50 := ⟨⟨call50_51, con51c52⟩, trivial⟩

noncomputable def b50 : Code := bodyOf Tryz.f50
theorem hb50 : Tryz.f50.body = some b50 := by kernel_rfl
def sig50 : List AT := [AT.v (Ty.str)]
def tys50 : List Ty := [Ty.bool]
def kds50 : List RK := []
def oks50 : List AT := owns sig50
def P50 (x0 : ByteArray) : Prop := True
def g50_0 (x0 : ByteArray) : Bool := g51c52_0 (bytesOf x0)
theorem p50_0 (x0 : ByteArray) : runF tab ext50 false 6 [] 2000 [] oks50 kds50 tys50 Tryz.f50.results [] [.code b50] (entE 0 0 sig50 (x0, ())) (entL sig50 (x0, ())) = some ([Dyn.mk Ty.bool (g51c52_0 (bytesOf x0))], [], [True]) := by kernel_rfl
theorem at50 (x0 : ByteArray) (h : P50 x0) (K : Ctx) (q : Nat → Value) : AtV Tryz.prog 50 (PostR kds50 oks50 [⟨Ty.bool, g50_0 x0⟩] [] [] q K) 6 K q [] [.code b50] (entE 0 0 sig50 (x0, ())) (entL sig50 (x0, ())) := by
  unfold P50 at h
  unfold g50_0
  exact AtV.fin Tryz.func50 tabOk ext50Ok mixed (p50_0 x0) ⟨trivial, trivial⟩

def S50 : Am.Spec := { sig := sig50, pre := fun ⟨x0, _⟩ => P50 x0, res := fun ⟨x0, _⟩ => [⟨Ty.bool, g50_0 x0⟩], kds := kds50 }
theorem con50 : Contract Tryz.prog 50 S50 := contract_of Tryz.func50 hb50 (Nat.le_of_ble_eq_true (by kernel_rfl)) (fun ⟨x0, _⟩ h _ K q => at50 x0 h K q)


end
end Go.Proofs.YtpoajfdfmiafnaaGreatDoor

/- Function 73 (slices.IndexFunc[[]string,string]): its runs between cut points. Written by a program of this repo (gen). -/
set_option linter.unusedVariables false
set_option linter.unusedSimpArgs false
set_option maxRecDepth 100000
namespace Go.Proofs.YtpoajfdfmiafnaaGreatDoor
open Go Go.Am Go.Proofs
noncomputable section
def ext73c50 : Ext := [(50, S50)]
theorem call73c50_50 : Callable Tryz.prog 50 := ⟨Tryz.f50, Tryz.func50, by kernel_rfl, by kernel_rfl⟩
theorem ext73c50Ok : ExtOk Tryz.prog ext73c50 := ⟨⟨call73c50_50, con50⟩, trivial⟩

noncomputable def b73c50 : Code := bodyOf Tryz.f73
theorem hb73c50 : Tryz.f73.body = some b73c50 := by kernel_rfl
def sig73c50 : List AT := [AT.v (Ty.sl Ty.str), AT.fn 50 []]
def tys73c50 : List Ty := [Ty.int IntKind.i64]
def kds73c50 : List RK := []
def oks73c50 : List AT := owns sig73c50
def E73c50_2 (v8 : Int) (x0 : List ByteArray) : Env := [(0, PV.a (Atom.sl Ty.str x0)), (1, PV.fn 50 []), (7, PV.a (Atom.val (Value.int IntKind.i64 (↑(List.length x0) : Int)))), (8, PV.a (Atom.val (Value.int IntKind.i64 v8)))]
def L73c50_2 (v8 : Int) (x0 : List ByteArray) : Heap := []
mutual
def R73c50 : Nat → List ByteArray → List Dyn → Prop
  | 0, _, _ => False
  | n + 1, x0, ds => (R73c50_2 n (0) (x0) ds)
def R73c50_2 : Nat → Int → List ByteArray → List Dyn → Prop
  | 0, _, _, _ => False
  | n + 1, v8, x0, ds => (if (Decidable.decide (v8 < (↑(List.length x0) : Int))) = true then ((0 ≤ v8) ∧ (v8 < (↑(List.length x0) : Int)) ∧ (if (g50_0 (List.getD x0 (Int.toNat v8) ByteArray.empty)) = true then (ds = [Dyn.mk (Ty.int IntKind.i64) v8]) else ((InR IntKind.i64 (v8 + 1)) ∧ (R73c50_2 n (v8 + 1) (x0) ds)))) else (ds = [Dyn.mk (Ty.int IntKind.i64) (-1)]))
end
theorem p73c50_0 (x0 : List ByteArray) : Am.runN tab ext73c50 false 19 [] 2000 [] [] [0, 1, 7, 8] [] [] [.code b73c50] (entE 0 0 sig73c50 (x0, (), ())) (entL sig73c50 (x0, (), ())) = some (cutAt b73c50 2, E73c50_2 (0) (x0), L73c50_2 (0) (x0), []) := by kernel_rfl
theorem p73c50_1 (v8 : Int) (x0 : List ByteArray) : runF tab ext73c50 false 19 [] 2000 [] oks73c50 kds73c50 tys73c50 Tryz.f73.results [true, true] (cutAt b73c50 2) (E73c50_2 v8 x0) (L73c50_2 v8 x0) = some ([Dyn.mk (Ty.int IntKind.i64) v8], [], [Decidable.decide (v8 < (↑(List.length x0) : Int)) = Bool.true, 0 ≤ v8, v8 < (↑(List.length x0) : Int), True, g50_0 (List.getD x0 (Int.toNat v8) ByteArray.empty) = Bool.true]) := by kernel_rfl
theorem p73c50_2 (v8 : Int) (x0 : List ByteArray) : Am.runN tab ext73c50 false 19 [] 2000 [] [] [0, 1, 7, 8] [] [true, false] (cutAt b73c50 2) (E73c50_2 v8 x0) (L73c50_2 v8 x0) = some (cutAt b73c50 2, E73c50_2 (v8 + 1) (x0), L73c50_2 (v8 + 1) (x0), [Decidable.decide (v8 < (↑(List.length x0) : Int)) = Bool.true, 0 ≤ v8, v8 < (↑(List.length x0) : Int), True, g50_0 (List.getD x0 (Int.toNat v8) ByteArray.empty) = Bool.false, InR IntKind.i64 (v8 + 1)]) := by kernel_rfl
theorem p73c50_3 (v8 : Int) (x0 : List ByteArray) : runF tab ext73c50 false 19 [] 2000 [] oks73c50 kds73c50 tys73c50 Tryz.f73.results [false] (cutAt b73c50 2) (E73c50_2 v8 x0) (L73c50_2 v8 x0) = some ([Dyn.mk (Ty.int IntKind.i64) (-1)], [], [Decidable.decide (v8 < (↑(List.length x0) : Int)) = Bool.false]) := by kernel_rfl
theorem snd73c50 : ∀ n, (∀ (x0 : List ByteArray) ds, R73c50 n x0 ds → ∀ K q, AtV Tryz.prog 73 (PostR kds73c50 oks73c50 ds [] [] q K) 19 K q [] [.code b73c50] (entE 0 0 sig73c50 (x0, (), ())) (entL sig73c50 (x0, (), ()))) ∧ (∀ (v8 : Int) (x0 : List ByteArray) ds, R73c50_2 n v8 x0 ds → ∀ K q, AtV Tryz.prog 73 (PostR kds73c50 oks73c50 ds [] [] q K) 19 K q [] (cutAt b73c50 2) (E73c50_2 v8 x0) (L73c50_2 v8 x0)) := by
  intro n
  induction n with
  | zero => exact ⟨fun _ _ h => by simp only [R73c50] at h, fun _ _ _ h => by simp only [R73c50_2] at h⟩
  | succ n ih =>
  obtain ⟨ih, ih2⟩ := ih
  refine ⟨?_, ?_⟩
  · intro x0 ds h K q
    rw [R73c50] at h
    exact AtV.runN tabOk ext73c50Ok mixed (p73c50_0 x0) trivial (ih2 _ _ _ h K q)

  · intro v8 x0 ds h K q
    rw [R73c50_2] at h
    by_cases b0 : (Decidable.decide (v8 < (↑(List.length x0) : Int))) = true
    · rw [if_pos b0] at h
      obtain ⟨s0, s1, h⟩ := h
      by_cases b1 : (g50_0 (List.getD x0 (Int.toNat v8) ByteArray.empty)) = true
      · rw [if_pos b1] at h
        subst h
        exact AtV.fin Tryz.func73 tabOk ext73c50Ok mixed (p73c50_1 v8 x0) ⟨b0, s0, s1, trivial, b1, trivial⟩
      · rw [if_neg b1] at h
        replace b1 := Bool.eq_false_iff.2 b1
        obtain ⟨s2, h⟩ := h
        exact AtV.runN tabOk ext73c50Ok mixed (p73c50_2 v8 x0) ⟨b0, s0, s1, trivial, b1, s2, trivial⟩ (ih2 _ _ _ h K q)
    · rw [if_neg b0] at h
      replace b0 := Bool.eq_false_iff.2 b0
      subst h
      exact AtV.fin Tryz.func73 tabOk ext73c50Ok mixed (p73c50_3 v8 x0) ⟨b0, trivial⟩



def g73c50_0 (x0 : List (ByteArray)) : Int := idx (x0.findIdx? g50_0)
def P73c50 (x0 : List (ByteArray)) : Prop := True

theorem top73c50 (x0 : List (ByteArray)) (hm : x0.length ≤ maxLen) : R73c50 (x0.length + 1 + 1) x0 [⟨.int .i64, g73c50_0 x0⟩] := by
  rw [R73c50]
  have key := loop_find x0 ByteArray.empty g50_0 [(⟨.int .i64, -1⟩ : Dyn)] (fun k => [⟨.int .i64, k⟩]) (fun n i ds => R73c50_2 n i x0 ds) (fun n => ?_) (fun n i hi hok ds hr => ?_) (fun n i hi hok => ?_)
  · unfold g73c50_0
    cases h : x0.findIdx? g50_0 <;> rw [h] at key <;> exact key
  · rw [R73c50_2, if_neg (by simp)]
  · rw [R73c50_2, if_pos (by simp; omega)]
    simp only [Int.toNat_natCast]
    refine ⟨by omega, by omega, ?_⟩
    rw [if_neg (by rw [hok]; simp)]
    exact ⟨inR_up hm hi, hr⟩
  · rw [R73c50_2, if_pos (by simp; omega)]
    simp only [Int.toNat_natCast]
    refine ⟨by omega, by omega, ?_⟩
    rw [if_pos hok] <;> trivial

def S73c50 : Am.Spec := { sig := sig73c50, pre := fun ⟨x0, _⟩ => P73c50 x0, res := fun ⟨x0, _⟩ => [⟨Ty.int .i64, g73c50_0 x0⟩] }
theorem con73c50 : Contract Tryz.prog 73 S73c50 := contract_of Tryz.func73 hb73c50 (Nat.le_of_ble_eq_true (by kernel_rfl)) (fun ⟨x0, _⟩ h hwf K q =>
  (snd73c50 _).1 x0 _ (top73c50 x0 hwf.1.1) K q)

theorem any73c50 (x0 : List (ByteArray)) : decide (g73c50_0 x0 ≥ 0) = x0.any g50_0 := by
  have := findIdx_any g50_0 x0
  unfold g73c50_0
  cases h : x0.any g50_0 with
  | true => rw [h] at this; simpa using this
  | false => rw [h] at this; simpa using this

end
end Go.Proofs.YtpoajfdfmiafnaaGreatDoor

/- Function 49 (slices.ContainsFunc[[]string,string]): its runs between cut points. Written by a program of this repo (gen). -/
set_option linter.unusedVariables false
set_option linter.unusedSimpArgs false
set_option maxRecDepth 100000
namespace Go.Proofs.YtpoajfdfmiafnaaGreatDoor
open Go Go.Am Go.Proofs
noncomputable section
def ext49c50 : Ext := [(73, S73c50), (50, S50)]
theorem call49c50_73 : Callable Tryz.prog 73 := ⟨Tryz.f73, Tryz.func73, by kernel_rfl, by kernel_rfl⟩
theorem call49c50_50 : Callable Tryz.prog 50 := ⟨Tryz.f50, Tryz.func50, by kernel_rfl, by kernel_rfl⟩
theorem ext49c50Ok : ExtOk Tryz.prog ext49c50 := ⟨⟨call49c50_73, con73c50⟩, ⟨call49c50_50, con50⟩, trivial⟩

noncomputable def b49c50 : Code := bodyOf Tryz.f49
theorem hb49c50 : Tryz.f49.body = some b49c50 := by kernel_rfl
def sig49c50 : List AT := [AT.v (Ty.sl Ty.str), AT.fn 50 []]
def tys49c50 : List Ty := [Ty.bool]
def kds49c50 : List RK := []
def oks49c50 : List AT := owns sig49c50
def P49c50 (x0 : List ByteArray) : Prop := True
def g49c50_0 (x0 : List ByteArray) : Bool := Decidable.decide (g73c50_0 x0 ≥ 0)
theorem p49c50_0 (x0 : List ByteArray) : runF tab ext49c50 false 9 [] 2000 [] oks49c50 kds49c50 tys49c50 Tryz.f49.results [] [.code b49c50] (entE 0 0 sig49c50 (x0, (), ())) (entL sig49c50 (x0, (), ())) = some ([Dyn.mk Ty.bool (Decidable.decide (g73c50_0 x0 ≥ 0))], [], [True]) := by kernel_rfl
theorem at49c50 (x0 : List ByteArray) (h : P49c50 x0) (K : Ctx) (q : Nat → Value) : AtV Tryz.prog 49 (PostR kds49c50 oks49c50 [⟨Ty.bool, g49c50_0 x0⟩] [] [] q K) 9 K q [] [.code b49c50] (entE 0 0 sig49c50 (x0, (), ())) (entL sig49c50 (x0, (), ())) := by
  unfold P49c50 at h
  unfold g49c50_0
  exact AtV.fin Tryz.func49 tabOk ext49c50Ok mixed (p49c50_0 x0) ⟨trivial, trivial⟩

def S49c50 : Am.Spec := { sig := sig49c50, pre := fun ⟨x0, _⟩ => P49c50 x0, res := fun ⟨x0, _⟩ => [⟨Ty.bool, g49c50_0 x0⟩], kds := kds49c50 }
theorem con49c50 : Contract Tryz.prog 49 S49c50 := contract_of Tryz.func49 hb49c50 (Nat.le_of_ble_eq_true (by kernel_rfl)) (fun ⟨x0, _⟩ h _ K q => at49c50 x0 h K q)


end
end Go.Proofs.YtpoajfdfmiafnaaGreatDoor

/- Function 36 (impl.areCells): its runs between cut points. Written by a program of this repo (gen). -/
set_option linter.unusedVariables false
set_option linter.unusedSimpArgs false
set_option maxRecDepth 100000
namespace Go.Proofs.YtpoajfdfmiafnaaGreatDoor
open Go Go.Am Go.Proofs
noncomputable section
def ext36 : Ext := [(49, S49c50)]
theorem call36_49 : Callable Tryz.prog 49 := ⟨Tryz.f49, Tryz.func49, by kernel_rfl, by kernel_rfl⟩
theorem ext36Ok : ExtOk Tryz.prog ext36 := ⟨⟨call36_49, con49c50⟩, trivial⟩

noncomputable def b36 : Code := bodyOf Tryz.f36
theorem hb36 : Tryz.f36.body = some b36 := by kernel_rfl
def sig36 : List AT := [AT.v (Ty.sl Ty.str)]
def tys36 : List Ty := [Ty.bool]
def kds36 : List RK := []
def oks36 : List AT := owns sig36
def P36 (x0 : List ByteArray) : Prop := True
def g36_0 (x0 : List ByteArray) : Bool := (if (Decidable.decide ((↑(List.length x0) : Int) ≤ 12)) = true then !g49c50_0 x0 else Bool.false)
theorem p36_0 (x0 : List ByteArray) : runF tab ext36 false 11 [] 2000 [] oks36 kds36 tys36 Tryz.f36.results [true] [.code b36] (entE 0 0 sig36 (x0, ())) (entL sig36 (x0, ())) = some ([Dyn.mk Ty.bool !g49c50_0 x0], [], [Decidable.decide ((↑(List.length x0) : Int) ≤ 12) = Bool.true, True]) := by kernel_rfl
theorem p36_1 (x0 : List ByteArray) : runF tab ext36 false 11 [] 2000 [] oks36 kds36 tys36 Tryz.f36.results [false] [.code b36] (entE 0 0 sig36 (x0, ())) (entL sig36 (x0, ())) = some ([Dyn.mk Ty.bool Bool.false], [], [Decidable.decide ((↑(List.length x0) : Int) ≤ 12) = Bool.false]) := by kernel_rfl
theorem at36 (x0 : List ByteArray) (h : P36 x0) (K : Ctx) (q : Nat → Value) : AtV Tryz.prog 36 (PostR kds36 oks36 [⟨Ty.bool, g36_0 x0⟩] [] [] q K) 11 K q [] [.code b36] (entE 0 0 sig36 (x0, ())) (entL sig36 (x0, ())) := by
  unfold P36 at h
  unfold g36_0
  by_cases b0 : (Decidable.decide ((↑(List.length x0) : Int) ≤ 12)) = true
  · try simp only [if_pos b0] at h ⊢
    exact AtV.fin Tryz.func36 tabOk ext36Ok mixed (p36_0 x0) ⟨b0, trivial, trivial⟩
  · try simp only [if_neg b0] at h ⊢
    replace b0 := Bool.eq_false_iff.2 b0
    exact AtV.fin Tryz.func36 tabOk ext36Ok mixed (p36_1 x0) ⟨b0, trivial⟩

def S36 : Am.Spec := { sig := sig36, pre := fun ⟨x0, _⟩ => P36 x0, res := fun ⟨x0, _⟩ => [⟨Ty.bool, g36_0 x0⟩], kds := kds36 }
theorem con36 : Contract Tryz.prog 36 S36 := contract_of Tryz.func36 hb36 (Nat.le_of_ble_eq_true (by kernel_rfl)) (fun ⟨x0, _⟩ h _ K q => at36 x0 h K q)


end
end Go.Proofs.YtpoajfdfmiafnaaGreatDoor

/- Function 35 (impl.TableLines$1): its runs between cut points. Written by a program of this repo (gen). -/
set_option linter.unusedVariables false
set_option linter.unusedSimpArgs false
set_option maxRecDepth 100000
namespace Go.Proofs.YtpoajfdfmiafnaaGreatDoor
open Go Go.Am Go.Proofs
noncomputable section
def ext35 : Ext := [(36, S36)]
theorem call35_36 : Callable Tryz.prog 36 := ⟨Tryz.f36, Tryz.func36, by kernel_rfl, by kernel_rfl⟩
theorem ext35Ok : ExtOk Tryz.prog ext35 := ⟨⟨call35_36, con36⟩, trivial⟩

noncomputable def b35 : Code := bodyOf Tryz.f35
theorem hb35 : Tryz.f35.body = some b35 := by kernel_rfl
def sig35 : List AT := [AT.v (Ty.sl Ty.str)]
def tys35 : List Ty := [Ty.bool]
def kds35 : List RK := []
def oks35 : List AT := owns sig35
def P35 (x0 : List ByteArray) : Prop := True
def g35_0 (x0 : List ByteArray) : Bool := !g36_0 x0
theorem p35_0 (x0 : List ByteArray) : runF tab ext35 false 6 [] 2000 [] oks35 kds35 tys35 Tryz.f35.results [] [.code b35] (entE 0 0 sig35 (x0, ())) (entL sig35 (x0, ())) = some ([Dyn.mk Ty.bool !g36_0 x0], [], [True]) := by kernel_rfl
theorem at35 (x0 : List ByteArray) (h : P35 x0) (K : Ctx) (q : Nat → Value) : AtV Tryz.prog 35 (PostR kds35 oks35 [⟨Ty.bool, g35_0 x0⟩] [] [] q K) 6 K q [] [.code b35] (entE 0 0 sig35 (x0, ())) (entL sig35 (x0, ())) := by
  unfold P35 at h
  unfold g35_0
  exact AtV.fin Tryz.func35 tabOk ext35Ok mixed (p35_0 x0) ⟨trivial, trivial⟩

def S35 : Am.Spec := { sig := sig35, pre := fun ⟨x0, _⟩ => P35 x0, res := fun ⟨x0, _⟩ => [⟨Ty.bool, g35_0 x0⟩], kds := kds35 }
theorem con35 : Contract Tryz.prog 35 S35 := contract_of Tryz.func35 hb35 (Nat.le_of_ble_eq_true (by kernel_rfl)) (fun ⟨x0, _⟩ h _ K q => at35 x0 h K q)


end
end Go.Proofs.YtpoajfdfmiafnaaGreatDoor

/- Function 48 (slices.IndexFunc[[][]string,[]string]): its runs between cut points. Written by a program of this repo (gen). -/
set_option linter.unusedVariables false
set_option linter.unusedSimpArgs false
set_option maxRecDepth 100000
namespace Go.Proofs.YtpoajfdfmiafnaaGreatDoor
open Go Go.Am Go.Proofs
noncomputable section
def ext48c35 : Ext := [(35, S35)]
theorem call48c35_35 : Callable Tryz.prog 35 := ⟨Tryz.f35, Tryz.func35, by kernel_rfl, by kernel_rfl⟩
theorem ext48c35Ok : ExtOk Tryz.prog ext48c35 := ⟨⟨call48c35_35, con35⟩, trivial⟩

noncomputable def b48c35 : Code := bodyOf Tryz.f48
theorem hb48c35 : Tryz.f48.body = some b48c35 := by kernel_rfl
def sig48c35 : List AT := [AT.v (Ty.sl (Ty.sl Ty.str)), AT.fn 35 []]
def tys48c35 : List Ty := [Ty.int IntKind.i64]
def kds48c35 : List RK := []
def oks48c35 : List AT := owns sig48c35
def E48c35_2 (v8 : Int) (x0 : List (List ByteArray)) : Env := [(0, PV.a (Atom.sl (Ty.sl Ty.str) x0)), (1, PV.fn 35 []), (7, PV.a (Atom.val (Value.int IntKind.i64 (↑(List.length x0) : Int)))), (8, PV.a (Atom.val (Value.int IntKind.i64 v8)))]
def L48c35_2 (v8 : Int) (x0 : List (List ByteArray)) : Heap := []
mutual
def R48c35 : Nat → List (List ByteArray) → List Dyn → Prop
  | 0, _, _ => False
  | n + 1, x0, ds => (R48c35_2 n (0) (x0) ds)
def R48c35_2 : Nat → Int → List (List ByteArray) → List Dyn → Prop
  | 0, _, _, _ => False
  | n + 1, v8, x0, ds => (if (Decidable.decide (v8 < (↑(List.length x0) : Int))) = true then ((0 ≤ v8) ∧ (v8 < (↑(List.length x0) : Int)) ∧ (if (g35_0 (List.getD x0 (Int.toNat v8) [])) = true then (ds = [Dyn.mk (Ty.int IntKind.i64) v8]) else ((InR IntKind.i64 (v8 + 1)) ∧ (R48c35_2 n (v8 + 1) (x0) ds)))) else (ds = [Dyn.mk (Ty.int IntKind.i64) (-1)]))
end
theorem p48c35_0 (x0 : List (List ByteArray)) : Am.runN tab ext48c35 false 19 [] 2000 [] [] [0, 1, 7, 8] [] [] [.code b48c35] (entE 0 0 sig48c35 (x0, (), ())) (entL sig48c35 (x0, (), ())) = some (cutAt b48c35 2, E48c35_2 (0) (x0), L48c35_2 (0) (x0), []) := by kernel_rfl
theorem p48c35_1 (v8 : Int) (x0 : List (List ByteArray)) : runF tab ext48c35 false 19 [] 2000 [] oks48c35 kds48c35 tys48c35 Tryz.f48.results [true, true] (cutAt b48c35 2) (E48c35_2 v8 x0) (L48c35_2 v8 x0) = some ([Dyn.mk (Ty.int IntKind.i64) v8], [], [Decidable.decide (v8 < (↑(List.length x0) : Int)) = Bool.true, 0 ≤ v8, v8 < (↑(List.length x0) : Int), True, g35_0 (List.getD x0 (Int.toNat v8) []) = Bool.true]) := by kernel_rfl
theorem p48c35_2 (v8 : Int) (x0 : List (List ByteArray)) : Am.runN tab ext48c35 false 19 [] 2000 [] [] [0, 1, 7, 8] [] [true, false] (cutAt b48c35 2) (E48c35_2 v8 x0) (L48c35_2 v8 x0) = some (cutAt b48c35 2, E48c35_2 (v8 + 1) (x0), L48c35_2 (v8 + 1) (x0), [Decidable.decide (v8 < (↑(List.length x0) : Int)) = Bool.true, 0 ≤ v8, v8 < (↑(List.length x0) : Int), True, g35_0 (List.getD x0 (Int.toNat v8) []) = Bool.false, InR IntKind.i64 (v8 + 1)]) := by kernel_rfl
theorem p48c35_3 (v8 : Int) (x0 : List (List ByteArray)) : runF tab ext48c35 false 19 [] 2000 [] oks48c35 kds48c35 tys48c35 Tryz.f48.results [false] (cutAt b48c35 2) (E48c35_2 v8 x0) (L48c35_2 v8 x0) = some ([Dyn.mk (Ty.int IntKind.i64) (-1)], [], [Decidable.decide (v8 < (↑(List.length x0) : Int)) = Bool.false]) := by kernel_rfl
theorem snd48c35 : ∀ n, (∀ (x0 : List (List ByteArray)) ds, R48c35 n x0 ds → ∀ K q, AtV Tryz.prog 48 (PostR kds48c35 oks48c35 ds [] [] q K) 19 K q [] [.code b48c35] (entE 0 0 sig48c35 (x0, (), ())) (entL sig48c35 (x0, (), ()))) ∧ (∀ (v8 : Int) (x0 : List (List ByteArray)) ds, R48c35_2 n v8 x0 ds → ∀ K q, AtV Tryz.prog 48 (PostR kds48c35 oks48c35 ds [] [] q K) 19 K q [] (cutAt b48c35 2) (E48c35_2 v8 x0) (L48c35_2 v8 x0)) := by
  intro n
  induction n with
  | zero => exact ⟨fun _ _ h => by simp only [R48c35] at h, fun _ _ _ h => by simp only [R48c35_2] at h⟩
  | succ n ih =>
  obtain ⟨ih, ih2⟩ := ih
  refine ⟨?_, ?_⟩
  · intro x0 ds h K q
    rw [R48c35] at h
    exact AtV.runN tabOk ext48c35Ok mixed (p48c35_0 x0) trivial (ih2 _ _ _ h K q)

  · intro v8 x0 ds h K q
    rw [R48c35_2] at h
    by_cases b0 : (Decidable.decide (v8 < (↑(List.length x0) : Int))) = true
    · rw [if_pos b0] at h
      obtain ⟨s0, s1, h⟩ := h
      by_cases b1 : (g35_0 (List.getD x0 (Int.toNat v8) [])) = true
      · rw [if_pos b1] at h
        subst h
        exact AtV.fin Tryz.func48 tabOk ext48c35Ok mixed (p48c35_1 v8 x0) ⟨b0, s0, s1, trivial, b1, trivial⟩
      · rw [if_neg b1] at h
        replace b1 := Bool.eq_false_iff.2 b1
        obtain ⟨s2, h⟩ := h
        exact AtV.runN tabOk ext48c35Ok mixed (p48c35_2 v8 x0) ⟨b0, s0, s1, trivial, b1, s2, trivial⟩ (ih2 _ _ _ h K q)
    · rw [if_neg b0] at h
      replace b0 := Bool.eq_false_iff.2 b0
      subst h
      exact AtV.fin Tryz.func48 tabOk ext48c35Ok mixed (p48c35_3 v8 x0) ⟨b0, trivial⟩



def g48c35_0 (x0 : List (List (ByteArray))) : Int := idx (x0.findIdx? g35_0)
def P48c35 (x0 : List (List (ByteArray))) : Prop := True

theorem top48c35 (x0 : List (List (ByteArray))) (hm : x0.length ≤ maxLen) : R48c35 (x0.length + 1 + 1) x0 [⟨.int .i64, g48c35_0 x0⟩] := by
  rw [R48c35]
  have key := loop_find x0 [] g35_0 [(⟨.int .i64, -1⟩ : Dyn)] (fun k => [⟨.int .i64, k⟩]) (fun n i ds => R48c35_2 n i x0 ds) (fun n => ?_) (fun n i hi hok ds hr => ?_) (fun n i hi hok => ?_)
  · unfold g48c35_0
    cases h : x0.findIdx? g35_0 <;> rw [h] at key <;> exact key
  · rw [R48c35_2, if_neg (by simp)]
  · rw [R48c35_2, if_pos (by simp; omega)]
    simp only [Int.toNat_natCast]
    refine ⟨by omega, by omega, ?_⟩
    rw [if_neg (by rw [hok]; simp)]
    exact ⟨inR_up hm hi, hr⟩
  · rw [R48c35_2, if_pos (by simp; omega)]
    simp only [Int.toNat_natCast]
    refine ⟨by omega, by omega, ?_⟩
    rw [if_pos hok] <;> trivial

def S48c35 : Am.Spec := { sig := sig48c35, pre := fun ⟨x0, _⟩ => P48c35 x0, res := fun ⟨x0, _⟩ => [⟨Ty.int .i64, g48c35_0 x0⟩] }
theorem con48c35 : Contract Tryz.prog 48 S48c35 := contract_of Tryz.func48 hb48c35 (Nat.le_of_ble_eq_true (by kernel_rfl)) (fun ⟨x0, _⟩ h hwf K q =>
  (snd48c35 _).1 x0 _ (top48c35 x0 hwf.1.1) K q)

theorem any48c35 (x0 : List (List (ByteArray))) : decide (g48c35_0 x0 ≥ 0) = x0.any g35_0 := by
  have := findIdx_any g35_0 x0
  unfold g48c35_0
  cases h : x0.any g35_0 with
  | true => rw [h] at this; simpa using this
  | false => rw [h] at this; simpa using this

end
end Go.Proofs.YtpoajfdfmiafnaaGreatDoor

/- Function 34 (slices.ContainsFunc[[][]string,[]string]): its runs between cut points. Written by a program of this repo (gen). -/
set_option linter.unusedVariables false
set_option linter.unusedSimpArgs false
set_option maxRecDepth 100000
namespace Go.Proofs.YtpoajfdfmiafnaaGreatDoor
open Go Go.Am Go.Proofs
noncomputable section
def ext34c35 : Ext := [(48, S48c35), (35, S35)]
theorem call34c35_48 : Callable Tryz.prog 48 := ⟨Tryz.f48, Tryz.func48, by kernel_rfl, by kernel_rfl⟩
theorem call34c35_35 : Callable Tryz.prog 35 := ⟨Tryz.f35, Tryz.func35, by kernel_rfl, by kernel_rfl⟩
theorem ext34c35Ok : ExtOk Tryz.prog ext34c35 := ⟨⟨call34c35_48, con48c35⟩, ⟨call34c35_35, con35⟩, trivial⟩

noncomputable def b34c35 : Code := bodyOf Tryz.f34
theorem hb34c35 : Tryz.f34.body = some b34c35 := by kernel_rfl
def sig34c35 : List AT := [AT.v (Ty.sl (Ty.sl Ty.str)), AT.fn 35 []]
def tys34c35 : List Ty := [Ty.bool]
def kds34c35 : List RK := []
def oks34c35 : List AT := owns sig34c35
def P34c35 (x0 : List (List ByteArray)) : Prop := True
def g34c35_0 (x0 : List (List ByteArray)) : Bool := Decidable.decide (g48c35_0 x0 ≥ 0)
theorem p34c35_0 (x0 : List (List ByteArray)) : runF tab ext34c35 false 9 [] 2000 [] oks34c35 kds34c35 tys34c35 Tryz.f34.results [] [.code b34c35] (entE 0 0 sig34c35 (x0, (), ())) (entL sig34c35 (x0, (), ())) = some ([Dyn.mk Ty.bool (Decidable.decide (g48c35_0 x0 ≥ 0))], [], [True]) := by kernel_rfl
theorem at34c35 (x0 : List (List ByteArray)) (h : P34c35 x0) (K : Ctx) (q : Nat → Value) : AtV Tryz.prog 34 (PostR kds34c35 oks34c35 [⟨Ty.bool, g34c35_0 x0⟩] [] [] q K) 9 K q [] [.code b34c35] (entE 0 0 sig34c35 (x0, (), ())) (entL sig34c35 (x0, (), ())) := by
  unfold P34c35 at h
  unfold g34c35_0
  exact AtV.fin Tryz.func34 tabOk ext34c35Ok mixed (p34c35_0 x0) ⟨trivial, trivial⟩

def S34c35 : Am.Spec := { sig := sig34c35, pre := fun ⟨x0, _⟩ => P34c35 x0, res := fun ⟨x0, _⟩ => [⟨Ty.bool, g34c35_0 x0⟩], kds := kds34c35 }
theorem con34c35 : Contract Tryz.prog 34 S34c35 := contract_of Tryz.func34 hb34c35 (Nat.le_of_ble_eq_true (by kernel_rfl)) (fun ⟨x0, _⟩ h _ K q => at34c35 x0 h K q)


end
end Go.Proofs.YtpoajfdfmiafnaaGreatDoor

/- Function 22 (impl.TableLines): its runs between cut points. Written by a program of this repo (gen). -/
set_option linter.unusedVariables false
set_option linter.unusedSimpArgs false
set_option maxRecDepth 100000
namespace Go.Proofs.YtpoajfdfmiafnaaGreatDoor
open Go Go.Am Go.Proofs
noncomputable section
def ext22 : Ext := [(37, S37), (39, S39), (38, S38), (40, S40), (34, S34c35)]
theorem call22_37 : Callable Tryz.prog 37 := ⟨Tryz.f37, Tryz.func37, by kernel_rfl, by kernel_rfl⟩
theorem call22_39 : Callable Tryz.prog 39 := ⟨Tryz.f39, Tryz.func39, by kernel_rfl, by kernel_rfl⟩
theorem call22_38 : Callable Tryz.prog 38 := ⟨Tryz.f38, Tryz.func38, by kernel_rfl, by kernel_rfl⟩
theorem call22_40 : Callable Tryz.prog 40 := ⟨Tryz.f40, Tryz.func40, by kernel_rfl, by kernel_rfl⟩
theorem call22_34 : Callable Tryz.prog 34 := ⟨Tryz.f34, Tryz.func34, by kernel_rfl, by kernel_rfl⟩
theorem ext22Ok : ExtOk Tryz.prog ext22 := ⟨⟨call22_37, con37⟩, ⟨call22_39, con39⟩, ⟨call22_38, con38⟩, ⟨call22_40, con40⟩, ⟨call22_34, con34c35⟩, trivial⟩

noncomputable def b22 : Code := bodyOf Tryz.f22
theorem hb22 : Tryz.f22.body = some b22 := by kernel_rfl
def sig22 : List AT := [AT.v (Ty.sl (Ty.sl Ty.str))]
def tys22 : List Ty := [Ty.sl Ty.str, Ty.int IntKind.i64]
def kds22 : List RK := []
def oks22 : List AT := owns sig22
def E22_5 (v20 : Int) (h0 : List Int) (x0 : List (List ByteArray)) : Env := [(0, PV.a (Atom.sl (Ty.sl Ty.str) x0)), (4, PV.a (Atom.osl 0 Option.none)), (18, PV.a (Atom.sl (Ty.sl Ty.str) x0)), (19, PV.a (Atom.val (Value.int IntKind.i64 (↑(List.length x0) : Int)))), (20, PV.a (Atom.val (Value.int IntKind.i64 v20)))]
def L22_5 (v20 : Int) (h0 : List Int) (x0 : List (List ByteArray)) : Heap := [Option.some (Arr.mk (Ty.int IntKind.i64) h0 Bool.false Option.none Option.none)]
def E22_8 (v26 : Int) (h0 : List Int) (x0 : List (List ByteArray)) (v20 : Int) : Env := [(0, PV.a (Atom.sl (Ty.sl Ty.str) x0)), (4, PV.a (Atom.osl 0 Option.none)), (18, PV.a (Atom.sl (Ty.sl Ty.str) x0)), (19, PV.a (Atom.val (Value.int IntKind.i64 (↑(List.length x0) : Int)))), (20, PV.a (Atom.val (Value.int IntKind.i64 v20))), (24, PV.a (Atom.sl Ty.str (List.getD x0 (Int.toNat v20) []))), (25, PV.a (Atom.val (Value.int IntKind.i64 (↑(List.length (List.getD x0 (Int.toNat v20) [])) : Int)))), (26, PV.a (Atom.val (Value.int IntKind.i64 v26)))]
def L22_8 (v26 : Int) (h0 : List Int) (x0 : List (List ByteArray)) (v20 : Int) : Heap := [Option.some (Arr.mk (Ty.int IntKind.i64) h0 Bool.false Option.none Option.none)]
def E22_15 (v45 : Int) (h1 : List ByteArray) (x0 : List (List ByteArray)) (h0 : List Int) : Env := [(4, PV.a (Atom.osl 0 Option.none)), (9, PV.a (Atom.osl 1 Option.none)), (43, PV.a (Atom.sl (Ty.sl Ty.str) x0)), (44, PV.a (Atom.val (Value.int IntKind.i64 (↑(List.length x0) : Int)))), (45, PV.a (Atom.val (Value.int IntKind.i64 v45)))]
def L22_15 (v45 : Int) (h1 : List ByteArray) (x0 : List (List ByteArray)) (h0 : List Int) : Heap := [Option.some (Arr.mk (Ty.int IntKind.i64) h0 Bool.false Option.none Option.none), Option.some (Arr.mk Ty.str h1 Bool.false Option.none Option.none)]
def E22_19 (v51 : Int) (h2 : List ByteArray) (x0 : List (List ByteArray)) (v45 : Int) (h0 : List Int) (h1 : List ByteArray) : Env := [(4, PV.a (Atom.osl 0 Option.none)), (9, PV.a (Atom.osl 1 Option.none)), (12, PV.a (Atom.osl 2 Option.none)), (43, PV.a (Atom.sl (Ty.sl Ty.str) x0)), (44, PV.a (Atom.val (Value.int IntKind.i64 (↑(List.length x0) : Int)))), (45, PV.a (Atom.val (Value.int IntKind.i64 v45))), (49, PV.a (Atom.sl Ty.str (List.getD x0 (Int.toNat v45) []))), (50, PV.a (Atom.val (Value.int IntKind.i64 (↑(List.length (List.getD x0 (Int.toNat v45) [])) : Int)))), (51, PV.a (Atom.val (Value.int IntKind.i64 v51)))]
def L22_19 (v51 : Int) (h2 : List ByteArray) (x0 : List (List ByteArray)) (v45 : Int) (h0 : List Int) (h1 : List ByteArray) : Heap := [Option.some (Arr.mk (Ty.int IntKind.i64) h0 Bool.false Option.none Option.none), Option.some (Arr.mk Ty.str h1 Bool.false Option.none Option.none), Option.some (Arr.mk Ty.str h2 Bool.false Option.none Option.none)]
mutual
def R22 : Nat → List (List ByteArray) → List Dyn → Prop
  | 0, _, _ => False
  | n + 1, x0, ds => (if (g34c35_0 x0) = true then (ds = [Dyn.mk (Ty.sl Ty.str) [], Dyn.mk (Ty.int IntKind.i64) 2]) else (R22_5 n (0) ([0, 0, 0, 0, 0, 0, 0, 0, 0, 0, 0, 0]) (x0) ds))
def R22_5 : Nat → Int → List Int → List (List ByteArray) → List Dyn → Prop
  | 0, _, _, _, _ => False
  | n + 1, v20, h0, x0, ds => (if (Decidable.decide (v20 < (↑(List.length x0) : Int))) = true then ((0 ≤ v20) ∧ (v20 < (↑(List.length x0) : Int)) ∧ (R22_8 n (0) (h0) (x0) (v20) ds)) else (R22_15 n (0) ([]) (x0) (h0) ds))
def R22_8 : Nat → Int → List Int → List (List ByteArray) → Int → List Dyn → Prop
  | 0, _, _, _, _, _ => False
  | n + 1, v26, h0, x0, v20, ds => (if (Decidable.decide (v26 < (↑(List.length (List.getD x0 (Int.toNat v20) [])) : Int))) = true then ((0 ≤ v26) ∧ (v26 < (↑(List.length (List.getD x0 (Int.toNat v20) [])) : Int)) ∧ ((0 ≤ v26) ∧ (v26 < (↑(List.length h0) : Int)) ∧ ((0 ≤ v26) ∧ (v26 < (↑(List.length h0) : Int)) ∧ ((InR IntKind.i64 (v26 + 1)) ∧ (R22_8 n (v26 + 1) (List.set h0 (Int.toNat v26) (if List.getD h0 (Int.toNat v26) 0 < (↑(ByteArray.size (List.getD (List.getD x0 (Int.toNat v20) []) (Int.toNat v26) ByteArray.empty)) : Int) then (↑(ByteArray.size (List.getD (List.getD x0 (Int.toNat v20) []) (Int.toNat v26) ByteArray.empty)) : Int) else List.getD h0 (Int.toNat v26) 0)) (x0) (v20) ds))))) else ((InR IntKind.i64 (v20 + 1)) ∧ (R22_5 n (v20 + 1) (h0) (x0) ds)))
def R22_15 : Nat → Int → List ByteArray → List (List ByteArray) → List Int → List Dyn → Prop
  | 0, _, _, _, _, _ => False
  | n + 1, v45, h1, x0, h0, ds => (if (Decidable.decide (v45 < (↑(List.length x0) : Int))) = true then ((0 ≤ v45) ∧ (v45 < (↑(List.length x0) : Int)) ∧ (R22_19 n (0) ([]) (x0) (v45) (h0) (h1) ds)) else (ds = [Dyn.mk (Ty.sl Ty.str) (g40_0 h1), Dyn.mk (Ty.int IntKind.i64) (g40_1 h1)]))
def R22_19 : Nat → Int → List ByteArray → List (List ByteArray) → Int → List Int → List ByteArray → List Dyn → Prop
  | 0, _, _, _, _, _, _, _ => False
  | n + 1, v51, h2, x0, v45, h0, h1, ds => (if (Decidable.decide (v51 < (↑(List.length (List.getD x0 (Int.toNat v45) [])) : Int))) = true then ((0 ≤ v51) ∧ (v51 < (↑(List.length (List.getD x0 (Int.toNat v45) [])) : Int)) ∧ ((0 ≤ v51) ∧ (v51 < (↑(List.length h0) : Int)) ∧ ((InR IntKind.i64 (List.getD h0 (Int.toNat v51) 0 - (↑(ByteArray.size (List.getD (List.getD x0 (Int.toNat v45) []) (Int.toNat v51) ByteArray.empty)) : Int))) ∧ ((P37 (ByteArray.mk #[32]) (List.getD h0 (Int.toNat v51) 0 - (↑(ByteArray.size (List.getD (List.getD x0 (Int.toNat v45) []) (Int.toNat v51) ByteArray.empty)) : Int))) ∧ ((ByteArray.size (List.getD (List.getD x0 (Int.toNat v45) []) (Int.toNat v51) ByteArray.empty) + ByteArray.size (g37_0 (ByteArray.mk #[32]) (List.getD h0 (Int.toNat v51) 0 - (↑(ByteArray.size (List.getD (List.getD x0 (Int.toNat v45) []) (Int.toNat v51) ByteArray.empty)) : Int))) ≤ 9223372036854775807) ∧ (((List.length h2 + 1) * 16 ≤ 140737488355328) ∧ ((InR IntKind.i64 (v51 + 1)) ∧ (R22_19 n (v51 + 1) (h2 ++ [List.getD (List.getD x0 (Int.toNat v45) []) (Int.toNat v51) ByteArray.empty ++ g37_0 (ByteArray.mk #[32]) (List.getD h0 (Int.toNat v51) 0 - (↑(ByteArray.size (List.getD (List.getD x0 (Int.toNat v45) []) (Int.toNat v51) ByteArray.empty)) : Int))]) (x0) (v45) (h0) (h1) ds)))))))) else ((P39 h2 (ByteArray.mk #[32, 32])) ∧ ((P38 (g39_0 h2 (ByteArray.mk #[32, 32])) (ByteArray.mk #[32])) ∧ (((List.length h1 + 1) * 16 ≤ 140737488355328) ∧ ((InR IntKind.i64 (v45 + 1)) ∧ (R22_15 n (v45 + 1) (h1 ++ [g38_0 (g39_0 h2 (ByteArray.mk #[32, 32])) (ByteArray.mk #[32])]) (x0) (h0) ds))))))
end
theorem p22_0 (x0 : List (List ByteArray)) : runF tab ext22 false 81 [] 2000 [] oks22 kds22 tys22 Tryz.f22.results [true] [.code b22] (entE 0 0 sig22 (x0, ())) (entL sig22 (x0, ())) = some ([Dyn.mk (Ty.sl Ty.str) [], Dyn.mk (Ty.int IntKind.i64) 2], [], [True, g34c35_0 x0 = Bool.true]) := by kernel_rfl
theorem p22_1 (x0 : List (List ByteArray)) : Am.runN tab ext22 false 81 [] 2000 [] [] [0, 4, 18, 19, 20] [0] [false] [.code b22] (entE 0 0 sig22 (x0, ())) (entL sig22 (x0, ())) = some (cutAt b22 5, E22_5 (0) ([0, 0, 0, 0, 0, 0, 0, 0, 0, 0, 0, 0]) (x0), L22_5 (0) ([0, 0, 0, 0, 0, 0, 0, 0, 0, 0, 0, 0]) (x0), [True, g34c35_0 x0 = Bool.false, (0 : Int) ≤ (12 : Int), (12 : Int) ≤ (12 : Int), (96 : Int) ≤ (281474976710656 : Int)]) := by kernel_rfl
theorem p22_2 (v20 : Int) (h0 : List Int) (x0 : List (List ByteArray)) : Am.runN tab ext22 false 81 [] 2000 [] [] [0, 4, 18, 19, 20, 24, 25, 26] [0] [true] (cutAt b22 5) (E22_5 v20 h0 x0) (L22_5 v20 h0 x0) = some (cutAt b22 8, E22_8 (0) (h0) (x0) (v20), L22_8 (0) (h0) (x0) (v20), [Decidable.decide (v20 < (↑(List.length x0) : Int)) = Bool.true, 0 ≤ v20, v20 < (↑(List.length x0) : Int)]) := by kernel_rfl
theorem p22_3 (v20 : Int) (h0 : List Int) (x0 : List (List ByteArray)) : Am.runN tab ext22 false 81 [] 2000 [] [(9, Ty.str)] [4, 9, 43, 44, 45] [0, 1] [false] (cutAt b22 5) (E22_5 v20 h0 x0) (L22_5 v20 h0 x0) = some (cutAt b22 15, E22_15 (0) ([]) (x0) (h0), L22_15 (0) ([]) (x0) (h0), [Decidable.decide (v20 < (↑(List.length x0) : Int)) = Bool.false]) := by kernel_rfl
theorem p22_4 (v26 : Int) (h0 : List Int) (x0 : List (List ByteArray)) (v20 : Int) : Am.runN tab ext22 false 81 [] 2000 [] [] [0, 4, 18, 19, 20, 24, 25, 26] [0] [true] (cutAt b22 8) (E22_8 v26 h0 x0 v20) (L22_8 v26 h0 x0 v20) = some (cutAt b22 8, E22_8 (v26 + 1) (List.set h0 (Int.toNat v26) (if List.getD h0 (Int.toNat v26) 0 < (↑(ByteArray.size (List.getD (List.getD x0 (Int.toNat v20) []) (Int.toNat v26) ByteArray.empty)) : Int) then (↑(ByteArray.size (List.getD (List.getD x0 (Int.toNat v20) []) (Int.toNat v26) ByteArray.empty)) : Int) else List.getD h0 (Int.toNat v26) 0)) (x0) (v20), L22_8 (v26 + 1) (List.set h0 (Int.toNat v26) (if List.getD h0 (Int.toNat v26) 0 < (↑(ByteArray.size (List.getD (List.getD x0 (Int.toNat v20) []) (Int.toNat v26) ByteArray.empty)) : Int) then (↑(ByteArray.size (List.getD (List.getD x0 (Int.toNat v20) []) (Int.toNat v26) ByteArray.empty)) : Int) else List.getD h0 (Int.toNat v26) 0)) (x0) (v20), [Decidable.decide (v26 < (↑(List.length (List.getD x0 (Int.toNat v20) [])) : Int)) = Bool.true, 0 ≤ v26, v26 < (↑(List.length (List.getD x0 (Int.toNat v20) [])) : Int), 0 ≤ v26, v26 < (↑(List.length h0) : Int), 0 ≤ v26, v26 < (↑(List.length h0) : Int), InR IntKind.i64 (v26 + 1)]) := by kernel_rfl
theorem p22_5 (v26 : Int) (h0 : List Int) (x0 : List (List ByteArray)) (v20 : Int) : Am.runN tab ext22 false 81 [] 2000 [] [] [0, 4, 18, 19, 20] [0] [false] (cutAt b22 8) (E22_8 v26 h0 x0 v20) (L22_8 v26 h0 x0 v20) = some (cutAt b22 5, E22_5 (v20 + 1) (h0) (x0), L22_5 (v20 + 1) (h0) (x0), [Decidable.decide (v26 < (↑(List.length (List.getD x0 (Int.toNat v20) [])) : Int)) = Bool.false, InR IntKind.i64 (v20 + 1)]) := by kernel_rfl
theorem p22_6 (v45 : Int) (h1 : List ByteArray) (x0 : List (List ByteArray)) (h0 : List Int) : Am.runN tab ext22 false 81 [] 2000 [] [(12, Ty.str)] [4, 9, 12, 43, 44, 45, 49, 50, 51] [0, 1, 2] [true] (cutAt b22 15) (E22_15 v45 h1 x0 h0) (L22_15 v45 h1 x0 h0) = some (cutAt b22 19, E22_19 (0) ([]) (x0) (v45) (h0) (h1), L22_19 (0) ([]) (x0) (v45) (h0) (h1), [Decidable.decide (v45 < (↑(List.length x0) : Int)) = Bool.true, 0 ≤ v45, v45 < (↑(List.length x0) : Int)]) := by kernel_rfl
theorem p22_7 (v45 : Int) (h1 : List ByteArray) (x0 : List (List ByteArray)) (h0 : List Int) : runF tab ext22 false 81 [] 2000 [] oks22 kds22 tys22 Tryz.f22.results [false] (cutAt b22 15) (E22_15 v45 h1 x0 h0) (L22_15 v45 h1 x0 h0) = some ([Dyn.mk (Ty.sl Ty.str) (g40_0 h1), Dyn.mk (Ty.int IntKind.i64) (g40_1 h1)], [], [Decidable.decide (v45 < (↑(List.length x0) : Int)) = Bool.false, True]) := by kernel_rfl
theorem p22_8 (v51 : Int) (h2 : List ByteArray) (x0 : List (List ByteArray)) (v45 : Int) (h0 : List Int) (h1 : List ByteArray) : Am.runN tab ext22 false 81 [] 2000 [] [(12, Ty.str)] [4, 9, 12, 43, 44, 45, 49, 50, 51] [0, 1, 2] [true] (cutAt b22 19) (E22_19 v51 h2 x0 v45 h0 h1) (L22_19 v51 h2 x0 v45 h0 h1) = some (cutAt b22 19, E22_19 (v51 + 1) (h2 ++ [List.getD (List.getD x0 (Int.toNat v45) []) (Int.toNat v51) ByteArray.empty ++ g37_0 (ByteArray.mk #[32]) (List.getD h0 (Int.toNat v51) 0 - (↑(ByteArray.size (List.getD (List.getD x0 (Int.toNat v45) []) (Int.toNat v51) ByteArray.empty)) : Int))]) (x0) (v45) (h0) (h1), L22_19 (v51 + 1) (h2 ++ [List.getD (List.getD x0 (Int.toNat v45) []) (Int.toNat v51) ByteArray.empty ++ g37_0 (ByteArray.mk #[32]) (List.getD h0 (Int.toNat v51) 0 - (↑(ByteArray.size (List.getD (List.getD x0 (Int.toNat v45) []) (Int.toNat v51) ByteArray.empty)) : Int))]) (x0) (v45) (h0) (h1), [Decidable.decide (v51 < (↑(List.length (List.getD x0 (Int.toNat v45) [])) : Int)) = Bool.true, 0 ≤ v51, v51 < (↑(List.length (List.getD x0 (Int.toNat v45) [])) : Int), 0 ≤ v51, v51 < (↑(List.length h0) : Int), InR IntKind.i64 (List.getD h0 (Int.toNat v51) 0 - (↑(ByteArray.size (List.getD (List.getD x0 (Int.toNat v45) []) (Int.toNat v51) ByteArray.empty)) : Int)), P37 (ByteArray.mk #[32]) (List.getD h0 (Int.toNat v51) 0 - (↑(ByteArray.size (List.getD (List.getD x0 (Int.toNat v45) []) (Int.toNat v51) ByteArray.empty)) : Int)), ByteArray.size (List.getD (List.getD x0 (Int.toNat v45) []) (Int.toNat v51) ByteArray.empty) + ByteArray.size (g37_0 (ByteArray.mk #[32]) (List.getD h0 (Int.toNat v51) 0 - (↑(ByteArray.size (List.getD (List.getD x0 (Int.toNat v45) []) (Int.toNat v51) ByteArray.empty)) : Int))) ≤ 9223372036854775807, (List.length h2 + 1) * 16 ≤ 140737488355328, InR IntKind.i64 (v51 + 1)]) := by kernel_rfl
theorem p22_9 (v51 : Int) (h2 : List ByteArray) (x0 : List (List ByteArray)) (v45 : Int) (h0 : List Int) (h1 : List ByteArray) : Am.runN tab ext22 false 81 [] 2000 [] [(9, Ty.str)] [4, 9, 43, 44, 45] [0, 1] [false] (cutAt b22 19) (E22_19 v51 h2 x0 v45 h0 h1) (L22_19 v51 h2 x0 v45 h0 h1) = some (cutAt b22 15, E22_15 (v45 + 1) (h1 ++ [g38_0 (g39_0 h2 (ByteArray.mk #[32, 32])) (ByteArray.mk #[32])]) (x0) (h0), L22_15 (v45 + 1) (h1 ++ [g38_0 (g39_0 h2 (ByteArray.mk #[32, 32])) (ByteArray.mk #[32])]) (x0) (h0), [Decidable.decide (v51 < (↑(List.length (List.getD x0 (Int.toNat v45) [])) : Int)) = Bool.false, P39 h2 (ByteArray.mk #[32, 32]), P38 (g39_0 h2 (ByteArray.mk #[32, 32])) (ByteArray.mk #[32]), (List.length h1 + 1) * 16 ≤ 140737488355328, InR IntKind.i64 (v45 + 1)]) := by kernel_rfl
theorem snd22 : ∀ n, (∀ (x0 : List (List ByteArray)) ds, R22 n x0 ds → ∀ K q, AtV Tryz.prog 22 (PostR kds22 oks22 ds [] [] q K) 81 K q [] [.code b22] (entE 0 0 sig22 (x0, ())) (entL sig22 (x0, ()))) ∧ (∀ (v20 : Int) (h0 : List Int) (x0 : List (List ByteArray)) ds, R22_5 n v20 h0 x0 ds → ∀ K q, AtV Tryz.prog 22 (PostR kds22 oks22 ds [] [] q K) 81 K q [] (cutAt b22 5) (E22_5 v20 h0 x0) (L22_5 v20 h0 x0)) ∧ (∀ (v26 : Int) (h0 : List Int) (x0 : List (List ByteArray)) (v20 : Int) ds, R22_8 n v26 h0 x0 v20 ds → ∀ K q, AtV Tryz.prog 22 (PostR kds22 oks22 ds [] [] q K) 81 K q [] (cutAt b22 8) (E22_8 v26 h0 x0 v20) (L22_8 v26 h0 x0 v20)) ∧ (∀ (v45 : Int) (h1 : List ByteArray) (x0 : List (List ByteArray)) (h0 : List Int) ds, R22_15 n v45 h1 x0 h0 ds → ∀ K q, AtV Tryz.prog 22 (PostR kds22 oks22 ds [] [] q K) 81 K q [] (cutAt b22 15) (E22_15 v45 h1 x0 h0) (L22_15 v45 h1 x0 h0)) ∧ (∀ (v51 : Int) (h2 : List ByteArray) (x0 : List (List ByteArray)) (v45 : Int) (h0 : List Int) (h1 : List ByteArray) ds, R22_19 n v51 h2 x0 v45 h0 h1 ds → ∀ K q, AtV Tryz.prog 22 (PostR kds22 oks22 ds [] [] q K) 81 K q [] (cutAt b22 19) (E22_19 v51 h2 x0 v45 h0 h1) (L22_19 v51 h2 x0 v45 h0 h1)) := by
  intro n
  induction n with
  | zero => exact ⟨fun _ _ h => by simp only [R22] at h, fun _ _ _ _ h => by simp only [R22_5] at h, fun _ _ _ _ _ h => by simp only [R22_8] at h, fun _ _ _ _ _ h => by simp only [R22_15] at h, fun _ _ _ _ _ _ _ h => by simp only [R22_19] at h⟩
  | succ n ih =>
  obtain ⟨ih, ih5, ih8, ih15, ih19⟩ := ih
  refine ⟨?_, ?_, ?_, ?_, ?_⟩
  · intro x0 ds h K q
    rw [R22] at h
    by_cases b0 : (g34c35_0 x0) = true
    · rw [if_pos b0] at h
      subst h
      exact AtV.fin Tryz.func22 tabOk ext22Ok mixed (p22_0 x0) ⟨trivial, b0, trivial⟩
    · rw [if_neg b0] at h
      replace b0 := Bool.eq_false_iff.2 b0
      exact AtV.runN tabOk ext22Ok mixed (p22_1 x0) ⟨trivial, b0, (by decide), (by decide), (by decide), trivial⟩ (ih5 _ _ _ _ h K q)

  · intro v20 h0 x0 ds h K q
    rw [R22_5] at h
    by_cases b0 : (Decidable.decide (v20 < (↑(List.length x0) : Int))) = true
    · rw [if_pos b0] at h
      obtain ⟨s0, s1, h⟩ := h
      exact AtV.runN tabOk ext22Ok mixed (p22_2 v20 h0 x0) ⟨b0, s0, s1, trivial⟩ (ih8 _ _ _ _ _ h K q)
    · rw [if_neg b0] at h
      replace b0 := Bool.eq_false_iff.2 b0
      exact AtV.runN tabOk ext22Ok mixed (p22_3 v20 h0 x0) ⟨b0, trivial⟩ (ih15 _ _ _ _ _ h K q)

  · intro v26 h0 x0 v20 ds h K q
    rw [R22_8] at h
    by_cases b0 : (Decidable.decide (v26 < (↑(List.length (List.getD x0 (Int.toNat v20) [])) : Int))) = true
    · rw [if_pos b0] at h
      obtain ⟨s0, s1, h⟩ := h
      obtain ⟨s2, s3, h⟩ := h
      obtain ⟨s4, s5, h⟩ := h
      obtain ⟨s6, h⟩ := h
      exact AtV.runN tabOk ext22Ok mixed (p22_4 v26 h0 x0 v20) ⟨b0, s0, s1, s2, s3, s4, s5, s6, trivial⟩ (ih8 _ _ _ _ _ h K q)
    · rw [if_neg b0] at h
      replace b0 := Bool.eq_false_iff.2 b0
      obtain ⟨s0, h⟩ := h
      exact AtV.runN tabOk ext22Ok mixed (p22_5 v26 h0 x0 v20) ⟨b0, s0, trivial⟩ (ih5 _ _ _ _ h K q)

  · intro v45 h1 x0 h0 ds h K q
    rw [R22_15] at h
    by_cases b0 : (Decidable.decide (v45 < (↑(List.length x0) : Int))) = true
    · rw [if_pos b0] at h
      obtain ⟨s0, s1, h⟩ := h
      exact AtV.runN tabOk ext22Ok mixed (p22_6 v45 h1 x0 h0) ⟨b0, s0, s1, trivial⟩ (ih19 _ _ _ _ _ _ _ h K q)
    · rw [if_neg b0] at h
      replace b0 := Bool.eq_false_iff.2 b0
      subst h
      exact AtV.fin Tryz.func22 tabOk ext22Ok mixed (p22_7 v45 h1 x0 h0) ⟨b0, trivial, trivial⟩

  · intro v51 h2 x0 v45 h0 h1 ds h K q
    rw [R22_19] at h
    by_cases b0 : (Decidable.decide (v51 < (↑(List.length (List.getD x0 (Int.toNat v45) [])) : Int))) = true
    · rw [if_pos b0] at h
      obtain ⟨s0, s1, h⟩ := h
      obtain ⟨s2, s3, h⟩ := h
      obtain ⟨s4, h⟩ := h
      obtain ⟨s5, h⟩ := h
      obtain ⟨s6, h⟩ := h
      obtain ⟨s7, h⟩ := h
      obtain ⟨s8, h⟩ := h
      exact AtV.runN tabOk ext22Ok mixed (p22_8 v51 h2 x0 v45 h0 h1) ⟨b0, s0, s1, s2, s3, s4, s5, s6, s7, s8, trivial⟩ (ih19 _ _ _ _ _ _ _ h K q)
    · rw [if_neg b0] at h
      replace b0 := Bool.eq_false_iff.2 b0
      obtain ⟨s0, h⟩ := h
      obtain ⟨s1, h⟩ := h
      obtain ⟨s2, h⟩ := h
      obtain ⟨s3, h⟩ := h
      exact AtV.runN tabOk ext22Ok mixed (p22_9 v51 h2 x0 v45 h0 h1) ⟨b0, s0, s1, s2, s3, trivial⟩ (ih15 _ _ _ _ _ h K q)



def up22 (h : List Int) (k : Nat) (c : ByteArray) : List Int := h.set k (if h.getD k 0 < ((c.size : Nat) : Int) then ((c.size : Nat) : Int) else h.getD k 0)
def row22 : Nat → List ByteArray → List Int → List Int
  | _, [], h => h
  | k, c :: r, h => row22 (k + 1) r (up22 h k c)
def wide22 (x0 : List (List ByteArray)) : List Int := x0.foldl (fun h r => row22 0 r h) [0, 0, 0, 0, 0, 0, 0, 0, 0, 0, 0, 0]
def wd22 (h : List Int) (k : Nat) (c : ByteArray) : ByteArray := c ++ g37_0 (ByteArray.mk #[32]) (h.getD k 0 - ((c.size : Nat) : Int))
def words22 (h : List Int) : Nat → List ByteArray → List ByteArray
  | _, [] => []
  | k, c :: r => wd22 h k c :: words22 h (k + 1) r
def fin22 (w : List ByteArray) : ByteArray := g38_0 (g39_0 w (ByteArray.mk #[32, 32])) (ByteArray.mk #[32])
def line22 (h : List Int) (r : List ByteArray) : ByteArray := fin22 (words22 h 0 r)

def P22 (x0 : List (List ByteArray)) : Prop := x0.length ≤ 1000000 ∧ ∀ r ∈ x0, r.length ≤ 12 ∧ ∀ c ∈ r, c.size ≤ 4000000
def g22_0 (x0 : List (List ByteArray)) : List ByteArray := if g34c35_0 x0 = true then [] else g40_0 (x0.map (line22 (wide22 x0)))
def g22_1 (x0 : List (List ByteArray)) : Int := if g34c35_0 x0 = true then 2 else g40_1 (x0.map (line22 (wide22 x0)))

def Wid22 (h : List Int) : Prop := h.length = 12 ∧ ∀ c ∈ h, 0 ≤ c ∧ c ≤ 4000000
theorem wget22 {h : List Int} (hw : Wid22 h) (k : Nat) : 0 ≤ h.getD k 0 ∧ h.getD k 0 ≤ 4000000 := by
  by_cases hk : k < h.length
  · exact hw.2 _ (mem_getD h k 0 hk)
  · rw [List.getD_eq_getElem?_getD, List.getElem?_eq_none (by omega)]
    exact ⟨Int.le_refl _, by decide⟩
theorem wup22 {h : List Int} (hw : Wid22 h) (k : Nat) {c : ByteArray} (hc : c.size ≤ 4000000) : Wid22 (up22 h k c) := by
  have hg := wget22 hw k
  refine ⟨by unfold up22; rw [List.length_set]; exact hw.1, fun y hy => ?_⟩
  unfold up22 at hy
  rcases List.mem_or_eq_of_mem_set hy with hy | rfl
  · exact hw.2 y hy
  · split <;> omega
theorem wrow22 : ∀ (r : List ByteArray) (k : Nat) (h : List Int), Wid22 h → (∀ c ∈ r, c.size ≤ 4000000) → Wid22 (row22 k r h)
  | [], _, _, hw, _ => hw
  | c :: r, k, h, hw, hc => wrow22 r (k + 1) _ (wup22 hw k (hc c (List.mem_cons_self ..))) (fun d hd => hc d (List.mem_cons_of_mem _ hd))

theorem upget22 (h : List Int) (k : Nat) (c : ByteArray) (j : Nat) : h.getD j 0 ≤ (up22 h k c).getD j 0 ∧ (k < h.length → ((c.size : Nat) : Int) ≤ (up22 h k c).getD k 0) := by
  unfold up22
  constructor
  · rw [List.getD_eq_getElem?_getD, List.getD_eq_getElem?_getD, List.getElem?_set]
    by_cases hjk : k = j
    · subst hjk
      by_cases hk : k < h.length
      · rw [if_pos rfl, if_pos hk, List.getD_eq_getElem?_getD]
        simp only [Option.getD_some]
        split <;> omega
      · rw [if_pos rfl, if_neg hk, List.getElem?_eq_none (by omega)]
        exact Int.le_refl _
    · rw [if_neg hjk]; exact Int.le_refl _
  · intro hk
    rw [List.getD_eq_getElem?_getD, List.getElem?_set, if_pos rfl, if_pos hk]
    simp only [Option.getD_some]
    split <;> omega

theorem rowmono22 : ∀ (r : List ByteArray) (k : Nat) (h : List Int) (j : Nat), h.getD j 0 ≤ (row22 k r h).getD j 0
  | [], _, _, _ => Int.le_refl _
  | c :: r, k, h, j => Int.le_trans (upget22 h k c j).1 (rowmono22 r (k + 1) _ j)

theorem rowcov22 : ∀ (r : List ByteArray) (k : Nat) (h : List Int), k + r.length ≤ h.length → ∀ j, j < r.length → (((r.getD j ByteArray.empty).size : Nat) : Int) ≤ (row22 k r h).getD (k + j) 0
  | [], _, _, _, j, hj => by cases hj
  | c :: r, k, h, hl, j, hj => by
    have hk : k < h.length := by simp at hl; omega
    cases j with
    | zero => exact Int.le_trans ((upget22 h k c k).2 hk) (rowmono22 r (k + 1) _ k)
    | succ j =>
      have := rowcov22 r (k + 1) (up22 h k c) (by unfold up22; rw [List.length_set]; simp at hl; omega) j (by simpa using hj)
      rw [show k + (j + 1) = k + 1 + j by omega]
      simpa [row22] using this

theorem foldmono22 : ∀ (l : List (List ByteArray)) (h : List Int) (j : Nat), h.getD j 0 ≤ (l.foldl (fun h r => row22 0 r h) h).getD j 0
  | [], _, _ => Int.le_refl _
  | r :: l, h, j => Int.le_trans (rowmono22 r 0 h j) (foldmono22 l _ j)

theorem foldcov22 : ∀ (l : List (List ByteArray)) (h : List Int), Wid22 h → (∀ r ∈ l, r.length ≤ 12 ∧ ∀ c ∈ r, c.size ≤ 4000000) → Wid22 (l.foldl (fun h r => row22 0 r h) h) ∧ ∀ r ∈ l, ∀ j, j < r.length → (((r.getD j ByteArray.empty).size : Nat) : Int) ≤ (l.foldl (fun h r => row22 0 r h) h).getD j 0
  | [], h, hw, _ => ⟨hw, fun r hr => by cases hr⟩
  | q :: l, h, hw, hr => by
    obtain ⟨q1, q2⟩ := hr q (List.mem_cons_self ..)
    obtain ⟨i1, i2⟩ := foldcov22 l (row22 0 q h) (wrow22 q 0 h hw q2) (fun r h => hr r (List.mem_cons_of_mem _ h))
    refine ⟨i1, fun r hm j hj => ?_⟩
    rcases List.mem_cons.1 hm with rfl | hm
    · have := rowcov22 r 0 h (by rw [hw.1]; omega) j hj
      rw [Nat.zero_add] at this
      exact Int.le_trans this (foldmono22 l _ j)
    · exact i2 r hm j hj

theorem wdsize22 {h : List Int} (hw : Wid22 h) {k : Nat} {c : ByteArray} (hc : ((c.size : Nat) : Int) ≤ h.getD k 0) : (wd22 h k c).size ≤ 4000000 := by
  have hg := wget22 hw k
  unfold wd22 g37_0
  rw [ByteArray.size_append]
  have : (ByteArray.mk (Lib.repeatL (ByteArray.mk #[32]).data.toList (h.getD k 0 - ((c.size : Nat) : Int)).toNat).toArray).size = (h.getD k 0 - ((c.size : Nat) : Int)).toNat * 1 := by
    show (List.toArray _).size = _
    rw [List.size_toArray, Lib.repeatL_length]
    rfl
  rw [this]
  omega

theorem joinlen22 : ∀ (w : List (List UInt8)), (∀ x ∈ w, x.length ≤ 4000000) → (Lib.joinTail [32, 32] w).length ≤ w.length * 4000002
  | [], _ => by simp [Lib.joinTail]
  | x :: r, h => by
    have := joinlen22 r (fun y hy => h y (List.mem_cons_of_mem _ hy))
    have hx := h x (List.mem_cons_self ..)
    simp only [Lib.joinTail, List.map_cons, List.flatten_cons, List.length_append, List.length_cons, List.length_nil] at this ⊢
    omega

theorem finpre22 {w : List ByteArray} (hl : w.length ≤ 12) (hw : ∀ x ∈ w, x.size ≤ 4000000) : P39 w (ByteArray.mk #[32, 32]) ∧ P38 (g39_0 w (ByteArray.mk #[32, 32])) (ByteArray.mk #[32]) := by
  refine ⟨⟨by omega, ?_⟩, ⟨32, rfl, by decide⟩⟩
  cases w with
  | nil => exact Nat.zero_le _
  | cons x r =>
    have e : (ByteArray.mk #[32, 32]).data.toList = [32, 32] := rfl
    rw [e, List.map_cons, Lib.join_cons, List.length_append]
    have h1 : x.data.toList.length ≤ 4000000 := hw x (List.mem_cons_self ..)
    have h2 := joinlen22 (r.map fun x => x.data.toList) (fun y hy => by
      obtain ⟨z, hz, rfl⟩ := List.mem_map.1 hy
      exact hw z (List.mem_cons_of_mem _ hz))
    rw [List.length_map] at h2
    simp only [List.length_cons] at hl
    omega

section
variable {x0 : List (List ByteArray)} {ds : List Dyn}

theorem l1922 {v45 : Nat} {h0 : List Int} {h1 : List ByteArray} (hw : Wid22 h0) (hr : (x0.getD v45 []).length ≤ 12) (hc : ∀ c ∈ x0.getD v45 [], c.size ≤ 4000000) (hcov : ∀ j, j < (x0.getD v45 []).length → ((((x0.getD v45 []).getD j ByteArray.empty).size : Nat) : Int) ≤ h0.getD j 0) (hv : v45 < 1000000) (hl : h1.length ≤ 1000000) :
    ∀ (k v51 : Nat) (h2 : List ByteArray), v51 + k = (x0.getD v45 []).length → h2.length = v51 → (∀ x ∈ h2, x.size ≤ 4000000) → (∃ n, R22_15 n ((v45 : Int) + 1) (h1 ++ [fin22 (h2 ++ words22 h0 v51 ((x0.getD v45 []).drop v51))]) x0 h0 ds) → ∃ n, R22_19 n (v51 : Int) h2 x0 (v45 : Int) h0 h1 ds := by
  intro k
  induction k with
  | zero =>
    intro v51 h2 hk h2l h2s ⟨n, hn⟩
    rw [drop_end _ v51 (by omega)] at hn
    simp only [words22, List.append_nil] at hn
    obtain ⟨p1, p2⟩ := finpre22 (w := h2) (by omega) h2s
    refine ⟨n + 1, ?_⟩
    rw [R22_19]
    simp only [Int.toNat_natCast]
    rw [if_neg (by simp only [decide_eq_true_eq]; omega)]
    exact ⟨p1, p2, by omega, by rw [i64_iff]; omega, hn⟩
  | succ k ih =>
    intro v51 h2 hk h2l h2s hn
    have h5 : v51 < (x0.getD v45 []).length := by omega
    have hcell := hcov v51 h5
    have hg := wget22 hw v51
    rw [drop_get _ v51 ByteArray.empty h5] at hn
    simp only [words22] at hn
    have hsz := wdsize22 hw hcell
    obtain ⟨n, hn⟩ := ih (v51 + 1) (h2 ++ [wd22 h0 v51 ((x0.getD v45 []).getD v51 ByteArray.empty)]) (by omega) (by rw [List.length_append, h2l]; rfl) (fun x hx => by
      rcases List.mem_append.1 hx with hx | hx
      · exact h2s x hx
      · rw [List.mem_singleton.1 hx]; exact hsz) (by rw [List.append_assoc, List.singleton_append]; exact hn)
    have hsz2 : ((x0.getD v45 []).getD v51 ByteArray.empty).size + (g37_0 (ByteArray.mk #[32]) (h0.getD v51 0 - ((((x0.getD v45 []).getD v51 ByteArray.empty).size : Nat) : Int))).size ≤ 4000000 := by
      have := hsz
      unfold wd22 at this
      rwa [ByteArray.size_append] at this
    have s1 : (ByteArray.mk #[32]).size = 1 := rfl
    have hlen := hw.1
    refine ⟨n + 1, ?_⟩
    rw [R22_19]
    simp only [Int.toNat_natCast]
    rw [if_pos (by simp only [decide_eq_true_eq]; omega)]
    exact ⟨by omega, by omega, by omega, by omega, by rw [i64_iff]; omega, ⟨by omega, by rw [s1]; omega⟩, by omega, by omega, by rw [i64_iff]; omega, hn⟩

theorem l1522 {h0 : List Int} (hw : Wid22 h0) (hx : x0.length ≤ 1000000) (hr : ∀ r ∈ x0, r.length ≤ 12 ∧ ∀ c ∈ r, c.size ≤ 4000000) (hcov : ∀ r ∈ x0, ∀ j, j < r.length → (((r.getD j ByteArray.empty).size : Nat) : Int) ≤ h0.getD j 0) : ∀ (k v45 : Nat) (h1 : List ByteArray), v45 + k = x0.length → h1.length = v45 →
    ∃ n, R22_15 n (v45 : Int) h1 x0 h0 [⟨.sl .str, g40_0 (h1 ++ (x0.drop v45).map (line22 h0))⟩, ⟨.int .i64, g40_1 (h1 ++ (x0.drop v45).map (line22 h0))⟩] := by
  intro k
  induction k with
  | zero =>
    intro v45 h1 hk hl
    refine ⟨1, ?_⟩
    rw [R22_15, if_neg (by simp only [decide_eq_true_eq]; omega), drop_end _ v45 (by omega)]
    simp
  | succ k ih =>
    intro v45 h1 hk hl
    have h7 : v45 < x0.length := by omega
    have hm := mem_getD x0 v45 [] h7
    obtain ⟨r1, r2⟩ := hr _ hm
    obtain ⟨n, hn⟩ := ih (v45 + 1) (h1 ++ [line22 h0 (x0.getD v45 [])]) (by omega) (by rw [List.length_append, hl]; rfl)
    have e : h1 ++ [line22 h0 (x0.getD v45 [])] ++ List.map (line22 h0) (x0.drop (v45 + 1)) = h1 ++ List.map (line22 h0) (x0.drop v45) := by
      rw [drop_get x0 v45 [] h7]; simp
    have e1 : (((v45 + 1 : Nat)) : Int) = (v45 : Int) + 1 := by omega
    rw [e, e1] at hn
    obtain ⟨n', hn'⟩ := l1922 (h1 := h1) (v45 := v45) hw r1 r2 (hcov _ hm) (by omega) (by omega) (x0.getD v45 []).length 0 [] (by omega) rfl (fun x hx => by cases hx) ⟨n, hn⟩
    refine ⟨n' + 1, ?_⟩
    rw [R22_15, if_pos (by simp only [decide_eq_true_eq]; omega)]
    exact ⟨by omega, by omega, hn'⟩

theorem l822 {v20 : Nat} (hr : (x0.getD v20 []).length ≤ 12) (hc : ∀ c ∈ x0.getD v20 [], c.size ≤ 4000000) (hv : v20 < 1000000) :
    ∀ (k v26 : Nat) (h0 : List Int), v26 + k = (x0.getD v20 []).length → Wid22 h0 → (∃ n, R22_5 n ((v20 : Int) + 1) (row22 v26 ((x0.getD v20 []).drop v26) h0) x0 ds) → ∃ n, R22_8 n (v26 : Int) h0 x0 (v20 : Int) ds := by
  intro k
  induction k with
  | zero =>
    intro v26 h0 hk hw ⟨n, hn⟩
    rw [drop_end _ v26 (by omega)] at hn
    refine ⟨n + 1, ?_⟩
    rw [R22_8]
    simp only [Int.toNat_natCast]
    rw [if_neg (by simp only [decide_eq_true_eq]; omega)]
    exact ⟨by rw [i64_iff]; omega, hn⟩
  | succ k ih =>
    intro v26 h0 hk hw hn
    have h5 : v26 < (x0.getD v20 []).length := by omega
    have hcell := hc _ (mem_getD (x0.getD v20 []) v26 ByteArray.empty h5)
    have hlen := hw.1
    rw [drop_get _ v26 ByteArray.empty h5] at hn
    simp only [row22] at hn
    obtain ⟨n, hn⟩ := ih (v26 + 1) _ (by omega) (wup22 hw v26 hcell) hn
    refine ⟨n + 1, ?_⟩
    rw [R22_8]
    simp only [Int.toNat_natCast]
    rw [if_pos (by simp only [decide_eq_true_eq]; omega)]
    exact ⟨by omega, by omega, by omega, by omega, by omega, by omega, by rw [i64_iff]; omega, hn⟩

theorem l522 (hx : x0.length ≤ 1000000) (hr : ∀ r ∈ x0, r.length ≤ 12 ∧ ∀ c ∈ r, c.size ≤ 4000000) : ∀ (k v20 : Nat) (h0 : List Int), v20 + k = x0.length → Wid22 h0 → (∃ n, R22_15 n 0 [] x0 ((x0.drop v20).foldl (fun h r => row22 0 r h) h0) ds) → ∃ n, R22_5 n (v20 : Int) h0 x0 ds := by
  intro k
  induction k with
  | zero =>
    intro v20 h0 hk hw ⟨n, hn⟩
    rw [drop_end _ v20 (by omega)] at hn
    refine ⟨n + 1, ?_⟩
    rw [R22_5, if_neg (by simp only [decide_eq_true_eq]; omega)]
    exact hn
  | succ k ih =>
    intro v20 h0 hk hw hn
    have h4 : v20 < x0.length := by omega
    obtain ⟨r1, r2⟩ := hr _ (mem_getD x0 v20 [] h4)
    rw [drop_get x0 v20 [] h4, List.foldl_cons] at hn
    obtain ⟨n, hn⟩ := ih (v20 + 1) (row22 0 (x0.getD v20 []) h0) (by omega) (wrow22 _ 0 h0 hw r2) hn
    have e1 : (((v20 + 1 : Nat)) : Int) = (v20 : Int) + 1 := by omega
    rw [e1] at hn
    obtain ⟨n', hn'⟩ := l822 (x0 := x0) r1 r2 (by omega) (x0.getD v20 []).length 0 h0 (by omega) hw ⟨n, hn⟩
    refine ⟨n' + 1, ?_⟩
    rw [R22_5, if_pos (by simp only [decide_eq_true_eq]; omega)]
    exact ⟨by omega, by omega, hn'⟩
end

theorem w022 : Wid22 [0, 0, 0, 0, 0, 0, 0, 0, 0, 0, 0, 0] := ⟨rfl, by decide⟩

theorem top22 (x0 : List (List ByteArray)) (h : P22 x0) : ∃ n, R22 n x0 [⟨.sl .str, g22_0 x0⟩, ⟨.int .i64, g22_1 x0⟩] := by
  unfold g22_0 g22_1
  by_cases hc : g34c35_0 x0 = true
  · refine ⟨1, ?_⟩
    rw [R22, if_pos hc, if_pos hc, if_pos hc]
  · obtain ⟨i1, i2⟩ := foldcov22 x0 _ w022 h.2
    obtain ⟨n, hn⟩ := l1522 (x0 := x0) (h0 := wide22 x0) i1 h.1 h.2 i2 x0.length 0 [] (by omega) rfl
    obtain ⟨n', hn'⟩ := l522 (x0 := x0) h.1 h.2 x0.length 0 [0, 0, 0, 0, 0, 0, 0, 0, 0, 0, 0, 0] (by omega) w022 ⟨n, hn⟩
    refine ⟨n' + 1, ?_⟩
    rw [R22, if_neg hc, if_neg hc, if_neg hc]
    exact hn'

def S22 : Am.Spec := { sig := sig22, pre := fun ⟨x0, _⟩ => P22 x0, res := fun ⟨x0, _⟩ => [⟨.sl .str, g22_0 x0⟩, ⟨.int .i64, g22_1 x0⟩] }
theorem con22 : Contract Tryz.prog 22 S22 := contract_of Tryz.func22 hb22 (Nat.le_of_ble_eq_true (by kernel_rfl)) (fun ⟨x0, _⟩ h hwf K q =>
  let ⟨n, hn⟩ := top22 x0 h
  (snd22 n).1 x0 _ hn K q)

end
end Go.Proofs.YtpoajfdfmiafnaaGreatDoor
