/- Several texts in one: the functions that this law reaches, and their laws. -/
import Derived.Test.YtpledggbnnjbiaaDoorZ3A
import Derived.Test.YtpledggbnnjbiaaDoorZ3B
import Derived.Test.YtpledggbnnjbiaaDoorZ3C
import Derived.Test.YtpledggbnnjbiaaDoorZ3D
import Derived.Lib.TrimByte
import Derived.Lib.Join
import Derived.Lib.ItoaNum

/- Function 23 (impl.TableLines): its runs between cut points. Written by a program of this repo (gen). -/
set_option linter.unusedVariables false
set_option linter.unusedSimpArgs false
set_option maxRecDepth 100000
namespace Go.Proofs.YtpledggbnnjbiaaDoor
open Go Go.Am Go.Proofs
noncomputable section
def ext23 : Ext := [(37, S37), (39, S39), (38, S38), (40, S40), (34, S34c35)]
theorem call23_37 : Callable Tryd.prog 37 := ⟨Tryd.f37, Tryd.func37, by kernel_rfl, by kernel_rfl⟩
theorem call23_39 : Callable Tryd.prog 39 := ⟨Tryd.f39, Tryd.func39, by kernel_rfl, by kernel_rfl⟩
theorem call23_38 : Callable Tryd.prog 38 := ⟨Tryd.f38, Tryd.func38, by kernel_rfl, by kernel_rfl⟩
theorem call23_40 : Callable Tryd.prog 40 := ⟨Tryd.f40, Tryd.func40, by kernel_rfl, by kernel_rfl⟩
theorem call23_34 : Callable Tryd.prog 34 := ⟨Tryd.f34, Tryd.func34, by kernel_rfl, by kernel_rfl⟩
theorem ext23Ok : ExtOk Tryd.prog ext23 := ⟨⟨call23_37, con37⟩, ⟨call23_39, con39⟩, ⟨call23_38, con38⟩, ⟨call23_40, con40⟩, ⟨call23_34, con34c35⟩, trivial⟩

noncomputable def b23 : Code := bodyOf Tryd.f23
theorem hb23 : Tryd.f23.body = some b23 := by kernel_rfl
def sig23 : List AT := [AT.v (Ty.sl (Ty.sl Ty.str))]
def tys23 : List Ty := [Ty.sl Ty.str, Ty.int IntKind.i64]
def kds23 : List RK := []
def oks23 : List AT := owns sig23
def E23_5 (v20 : Int) (h0 : List Int) (x0 : List (List ByteArray)) : Env := [(0, PV.a (Atom.sl (Ty.sl Ty.str) x0)), (4, PV.a (Atom.osl 0 Option.none)), (18, PV.a (Atom.sl (Ty.sl Ty.str) x0)), (19, PV.a (Atom.val (Value.int IntKind.i64 (↑(List.length x0) : Int)))), (20, PV.a (Atom.val (Value.int IntKind.i64 v20)))]
def L23_5 (v20 : Int) (h0 : List Int) (x0 : List (List ByteArray)) : Heap := [Option.some (Arr.mk (Ty.int IntKind.i64) h0 Bool.false Option.none Option.none)]
def E23_8 (v26 : Int) (h0 : List Int) (x0 : List (List ByteArray)) (v20 : Int) : Env := [(0, PV.a (Atom.sl (Ty.sl Ty.str) x0)), (4, PV.a (Atom.osl 0 Option.none)), (18, PV.a (Atom.sl (Ty.sl Ty.str) x0)), (19, PV.a (Atom.val (Value.int IntKind.i64 (↑(List.length x0) : Int)))), (20, PV.a (Atom.val (Value.int IntKind.i64 v20))), (24, PV.a (Atom.sl Ty.str (List.getD x0 (Int.toNat v20) []))), (25, PV.a (Atom.val (Value.int IntKind.i64 (↑(List.length (List.getD x0 (Int.toNat v20) [])) : Int)))), (26, PV.a (Atom.val (Value.int IntKind.i64 v26)))]
def L23_8 (v26 : Int) (h0 : List Int) (x0 : List (List ByteArray)) (v20 : Int) : Heap := [Option.some (Arr.mk (Ty.int IntKind.i64) h0 Bool.false Option.none Option.none)]
def E23_15 (v45 : Int) (h1 : List ByteArray) (x0 : List (List ByteArray)) (h0 : List Int) : Env := [(4, PV.a (Atom.osl 0 Option.none)), (9, PV.a (Atom.osl 1 Option.none)), (43, PV.a (Atom.sl (Ty.sl Ty.str) x0)), (44, PV.a (Atom.val (Value.int IntKind.i64 (↑(List.length x0) : Int)))), (45, PV.a (Atom.val (Value.int IntKind.i64 v45)))]
def L23_15 (v45 : Int) (h1 : List ByteArray) (x0 : List (List ByteArray)) (h0 : List Int) : Heap := [Option.some (Arr.mk (Ty.int IntKind.i64) h0 Bool.false Option.none Option.none), Option.some (Arr.mk Ty.str h1 Bool.false Option.none Option.none)]
def E23_19 (v51 : Int) (h2 : List ByteArray) (x0 : List (List ByteArray)) (v45 : Int) (h0 : List Int) (h1 : List ByteArray) : Env := [(4, PV.a (Atom.osl 0 Option.none)), (9, PV.a (Atom.osl 1 Option.none)), (12, PV.a (Atom.osl 2 Option.none)), (43, PV.a (Atom.sl (Ty.sl Ty.str) x0)), (44, PV.a (Atom.val (Value.int IntKind.i64 (↑(List.length x0) : Int)))), (45, PV.a (Atom.val (Value.int IntKind.i64 v45))), (49, PV.a (Atom.sl Ty.str (List.getD x0 (Int.toNat v45) []))), (50, PV.a (Atom.val (Value.int IntKind.i64 (↑(List.length (List.getD x0 (Int.toNat v45) [])) : Int)))), (51, PV.a (Atom.val (Value.int IntKind.i64 v51)))]
def L23_19 (v51 : Int) (h2 : List ByteArray) (x0 : List (List ByteArray)) (v45 : Int) (h0 : List Int) (h1 : List ByteArray) : Heap := [Option.some (Arr.mk (Ty.int IntKind.i64) h0 Bool.false Option.none Option.none), Option.some (Arr.mk Ty.str h1 Bool.false Option.none Option.none), Option.some (Arr.mk Ty.str h2 Bool.false Option.none Option.none)]
mutual
def R23 : Nat → List (List ByteArray) → List Dyn → Prop
  | 0, _, _ => False
  | n + 1, x0, ds => (if (g34c35_0 x0) = true then (ds = [Dyn.mk (Ty.sl Ty.str) [], Dyn.mk (Ty.int IntKind.i64) 2]) else (R23_5 n (0) ([0, 0, 0, 0, 0, 0, 0, 0, 0, 0, 0, 0]) (x0) ds))
def R23_5 : Nat → Int → List Int → List (List ByteArray) → List Dyn → Prop
  | 0, _, _, _, _ => False
  | n + 1, v20, h0, x0, ds => (if (Decidable.decide (v20 < (↑(List.length x0) : Int))) = true then ((0 ≤ v20) ∧ (v20 < (↑(List.length x0) : Int)) ∧ (R23_8 n (0) (h0) (x0) (v20) ds)) else (R23_15 n (0) ([]) (x0) (h0) ds))
def R23_8 : Nat → Int → List Int → List (List ByteArray) → Int → List Dyn → Prop
  | 0, _, _, _, _, _ => False
  | n + 1, v26, h0, x0, v20, ds => (if (Decidable.decide (v26 < (↑(List.length (List.getD x0 (Int.toNat v20) [])) : Int))) = true then ((0 ≤ v26) ∧ (v26 < (↑(List.length (List.getD x0 (Int.toNat v20) [])) : Int)) ∧ ((0 ≤ v26) ∧ (v26 < (↑(List.length h0) : Int)) ∧ ((0 ≤ v26) ∧ (v26 < (↑(List.length h0) : Int)) ∧ ((InR IntKind.i64 (v26 + 1)) ∧ (R23_8 n (v26 + 1) (List.set h0 (Int.toNat v26) (if List.getD h0 (Int.toNat v26) 0 < (↑(ByteArray.size (List.getD (List.getD x0 (Int.toNat v20) []) (Int.toNat v26) ByteArray.empty)) : Int) then (↑(ByteArray.size (List.getD (List.getD x0 (Int.toNat v20) []) (Int.toNat v26) ByteArray.empty)) : Int) else List.getD h0 (Int.toNat v26) 0)) (x0) (v20) ds))))) else ((InR IntKind.i64 (v20 + 1)) ∧ (R23_5 n (v20 + 1) (h0) (x0) ds)))
def R23_15 : Nat → Int → List ByteArray → List (List ByteArray) → List Int → List Dyn → Prop
  | 0, _, _, _, _, _ => False
  | n + 1, v45, h1, x0, h0, ds => (if (Decidable.decide (v45 < (↑(List.length x0) : Int))) = true then ((0 ≤ v45) ∧ (v45 < (↑(List.length x0) : Int)) ∧ (R23_19 n (0) ([]) (x0) (v45) (h0) (h1) ds)) else (ds = [Dyn.mk (Ty.sl Ty.str) (g40_0 h1), Dyn.mk (Ty.int IntKind.i64) (g40_1 h1)]))
def R23_19 : Nat → Int → List ByteArray → List (List ByteArray) → Int → List Int → List ByteArray → List Dyn → Prop
  | 0, _, _, _, _, _, _, _ => False
  | n + 1, v51, h2, x0, v45, h0, h1, ds => (if (Decidable.decide (v51 < (↑(List.length (List.getD x0 (Int.toNat v45) [])) : Int))) = true then ((0 ≤ v51) ∧ (v51 < (↑(List.length (List.getD x0 (Int.toNat v45) [])) : Int)) ∧ ((0 ≤ v51) ∧ (v51 < (↑(List.length h0) : Int)) ∧ ((InR IntKind.i64 (List.getD h0 (Int.toNat v51) 0 - (↑(ByteArray.size (List.getD (List.getD x0 (Int.toNat v45) []) (Int.toNat v51) ByteArray.empty)) : Int))) ∧ ((P37 (ByteArray.mk #[32]) (List.getD h0 (Int.toNat v51) 0 - (↑(ByteArray.size (List.getD (List.getD x0 (Int.toNat v45) []) (Int.toNat v51) ByteArray.empty)) : Int))) ∧ ((ByteArray.size (List.getD (List.getD x0 (Int.toNat v45) []) (Int.toNat v51) ByteArray.empty) + ByteArray.size (g37_0 (ByteArray.mk #[32]) (List.getD h0 (Int.toNat v51) 0 - (↑(ByteArray.size (List.getD (List.getD x0 (Int.toNat v45) []) (Int.toNat v51) ByteArray.empty)) : Int))) ≤ 9223372036854775807) ∧ (((List.length h2 + 1) * 16 ≤ 140737488355328) ∧ ((InR IntKind.i64 (v51 + 1)) ∧ (R23_19 n (v51 + 1) (h2 ++ [List.getD (List.getD x0 (Int.toNat v45) []) (Int.toNat v51) ByteArray.empty ++ g37_0 (ByteArray.mk #[32]) (List.getD h0 (Int.toNat v51) 0 - (↑(ByteArray.size (List.getD (List.getD x0 (Int.toNat v45) []) (Int.toNat v51) ByteArray.empty)) : Int))]) (x0) (v45) (h0) (h1) ds)))))))) else ((P39 h2 (ByteArray.mk #[32, 32])) ∧ ((P38 (g39_0 h2 (ByteArray.mk #[32, 32])) (ByteArray.mk #[32])) ∧ (((List.length h1 + 1) * 16 ≤ 140737488355328) ∧ ((InR IntKind.i64 (v45 + 1)) ∧ (R23_15 n (v45 + 1) (h1 ++ [g38_0 (g39_0 h2 (ByteArray.mk #[32, 32])) (ByteArray.mk #[32])]) (x0) (h0) ds))))))
end
theorem p23_0 (x0 : List (List ByteArray)) : runF tab ext23 false 81 [] 2000 [] oks23 kds23 tys23 Tryd.f23.results [true] [.code b23] (entE 0 0 sig23 (x0, ())) (entL sig23 (x0, ())) = some ([Dyn.mk (Ty.sl Ty.str) [], Dyn.mk (Ty.int IntKind.i64) 2], [], [True, g34c35_0 x0 = Bool.true]) := by kernel_rfl
theorem p23_1 (x0 : List (List ByteArray)) : Am.runN tab ext23 false 81 [] 2000 [] [] [0, 4, 18, 19, 20] [0] [false] [.code b23] (entE 0 0 sig23 (x0, ())) (entL sig23 (x0, ())) = some (cutAt b23 5, E23_5 (0) ([0, 0, 0, 0, 0, 0, 0, 0, 0, 0, 0, 0]) (x0), L23_5 (0) ([0, 0, 0, 0, 0, 0, 0, 0, 0, 0, 0, 0]) (x0), [True, g34c35_0 x0 = Bool.false, (0 : Int) ≤ (12 : Int), (12 : Int) ≤ (12 : Int), (96 : Int) ≤ (281474976710656 : Int)]) := by kernel_rfl
theorem p23_2 (v20 : Int) (h0 : List Int) (x0 : List (List ByteArray)) : Am.runN tab ext23 false 81 [] 2000 [] [] [0, 4, 18, 19, 20, 24, 25, 26] [0] [true] (cutAt b23 5) (E23_5 v20 h0 x0) (L23_5 v20 h0 x0) = some (cutAt b23 8, E23_8 (0) (h0) (x0) (v20), L23_8 (0) (h0) (x0) (v20), [Decidable.decide (v20 < (↑(List.length x0) : Int)) = Bool.true, 0 ≤ v20, v20 < (↑(List.length x0) : Int)]) := by kernel_rfl
theorem p23_3 (v20 : Int) (h0 : List Int) (x0 : List (List ByteArray)) : Am.runN tab ext23 false 81 [] 2000 [] [(9, Ty.str)] [4, 9, 43, 44, 45] [0, 1] [false] (cutAt b23 5) (E23_5 v20 h0 x0) (L23_5 v20 h0 x0) = some (cutAt b23 15, E23_15 (0) ([]) (x0) (h0), L23_15 (0) ([]) (x0) (h0), [Decidable.decide (v20 < (↑(List.length x0) : Int)) = Bool.false]) := by kernel_rfl
theorem p23_4 (v26 : Int) (h0 : List Int) (x0 : List (List ByteArray)) (v20 : Int) : Am.runN tab ext23 false 81 [] 2000 [] [] [0, 4, 18, 19, 20, 24, 25, 26] [0] [true] (cutAt b23 8) (E23_8 v26 h0 x0 v20) (L23_8 v26 h0 x0 v20) = some (cutAt b23 8, E23_8 (v26 + 1) (List.set h0 (Int.toNat v26) (if List.getD h0 (Int.toNat v26) 0 < (↑(ByteArray.size (List.getD (List.getD x0 (Int.toNat v20) []) (Int.toNat v26) ByteArray.empty)) : Int) then (↑(ByteArray.size (List.getD (List.getD x0 (Int.toNat v20) []) (Int.toNat v26) ByteArray.empty)) : Int) else List.getD h0 (Int.toNat v26) 0)) (x0) (v20), L23_8 (v26 + 1) (List.set h0 (Int.toNat v26) (if List.getD h0 (Int.toNat v26) 0 < (↑(ByteArray.size (List.getD (List.getD x0 (Int.toNat v20) []) (Int.toNat v26) ByteArray.empty)) : Int) then (↑(ByteArray.size (List.getD (List.getD x0 (Int.toNat v20) []) (Int.toNat v26) ByteArray.empty)) : Int) else List.getD h0 (Int.toNat v26) 0)) (x0) (v20), [Decidable.decide (v26 < (↑(List.length (List.getD x0 (Int.toNat v20) [])) : Int)) = Bool.true, 0 ≤ v26, v26 < (↑(List.length (List.getD x0 (Int.toNat v20) [])) : Int), 0 ≤ v26, v26 < (↑(List.length h0) : Int), 0 ≤ v26, v26 < (↑(List.length h0) : Int), InR IntKind.i64 (v26 + 1)]) := by kernel_rfl
theorem p23_5 (v26 : Int) (h0 : List Int) (x0 : List (List ByteArray)) (v20 : Int) : Am.runN tab ext23 false 81 [] 2000 [] [] [0, 4, 18, 19, 20] [0] [false] (cutAt b23 8) (E23_8 v26 h0 x0 v20) (L23_8 v26 h0 x0 v20) = some (cutAt b23 5, E23_5 (v20 + 1) (h0) (x0), L23_5 (v20 + 1) (h0) (x0), [Decidable.decide (v26 < (↑(List.length (List.getD x0 (Int.toNat v20) [])) : Int)) = Bool.false, InR IntKind.i64 (v20 + 1)]) := by kernel_rfl
theorem p23_6 (v45 : Int) (h1 : List ByteArray) (x0 : List (List ByteArray)) (h0 : List Int) : Am.runN tab ext23 false 81 [] 2000 [] [(12, Ty.str)] [4, 9, 12, 43, 44, 45, 49, 50, 51] [0, 1, 2] [true] (cutAt b23 15) (E23_15 v45 h1 x0 h0) (L23_15 v45 h1 x0 h0) = some (cutAt b23 19, E23_19 (0) ([]) (x0) (v45) (h0) (h1), L23_19 (0) ([]) (x0) (v45) (h0) (h1), [Decidable.decide (v45 < (↑(List.length x0) : Int)) = Bool.true, 0 ≤ v45, v45 < (↑(List.length x0) : Int)]) := by kernel_rfl
theorem p23_7 (v45 : Int) (h1 : List ByteArray) (x0 : List (List ByteArray)) (h0 : List Int) : runF tab ext23 false 81 [] 2000 [] oks23 kds23 tys23 Tryd.f23.results [false] (cutAt b23 15) (E23_15 v45 h1 x0 h0) (L23_15 v45 h1 x0 h0) = some ([Dyn.mk (Ty.sl Ty.str) (g40_0 h1), Dyn.mk (Ty.int IntKind.i64) (g40_1 h1)], [], [Decidable.decide (v45 < (↑(List.length x0) : Int)) = Bool.false, True]) := by kernel_rfl
theorem p23_8 (v51 : Int) (h2 : List ByteArray) (x0 : List (List ByteArray)) (v45 : Int) (h0 : List Int) (h1 : List ByteArray) : Am.runN tab ext23 false 81 [] 2000 [] [(12, Ty.str)] [4, 9, 12, 43, 44, 45, 49, 50, 51] [0, 1, 2] [true] (cutAt b23 19) (E23_19 v51 h2 x0 v45 h0 h1) (L23_19 v51 h2 x0 v45 h0 h1) = some (cutAt b23 19, E23_19 (v51 + 1) (h2 ++ [List.getD (List.getD x0 (Int.toNat v45) []) (Int.toNat v51) ByteArray.empty ++ g37_0 (ByteArray.mk #[32]) (List.getD h0 (Int.toNat v51) 0 - (↑(ByteArray.size (List.getD (List.getD x0 (Int.toNat v45) []) (Int.toNat v51) ByteArray.empty)) : Int))]) (x0) (v45) (h0) (h1), L23_19 (v51 + 1) (h2 ++ [List.getD (List.getD x0 (Int.toNat v45) []) (Int.toNat v51) ByteArray.empty ++ g37_0 (ByteArray.mk #[32]) (List.getD h0 (Int.toNat v51) 0 - (↑(ByteArray.size (List.getD (List.getD x0 (Int.toNat v45) []) (Int.toNat v51) ByteArray.empty)) : Int))]) (x0) (v45) (h0) (h1), [Decidable.decide (v51 < (↑(List.length (List.getD x0 (Int.toNat v45) [])) : Int)) = Bool.true, 0 ≤ v51, v51 < (↑(List.length (List.getD x0 (Int.toNat v45) [])) : Int), 0 ≤ v51, v51 < (↑(List.length h0) : Int), InR IntKind.i64 (List.getD h0 (Int.toNat v51) 0 - (↑(ByteArray.size (List.getD (List.getD x0 (Int.toNat v45) []) (Int.toNat v51) ByteArray.empty)) : Int)), P37 (ByteArray.mk #[32]) (List.getD h0 (Int.toNat v51) 0 - (↑(ByteArray.size (List.getD (List.getD x0 (Int.toNat v45) []) (Int.toNat v51) ByteArray.empty)) : Int)), ByteArray.size (List.getD (List.getD x0 (Int.toNat v45) []) (Int.toNat v51) ByteArray.empty) + ByteArray.size (g37_0 (ByteArray.mk #[32]) (List.getD h0 (Int.toNat v51) 0 - (↑(ByteArray.size (List.getD (List.getD x0 (Int.toNat v45) []) (Int.toNat v51) ByteArray.empty)) : Int))) ≤ 9223372036854775807, (List.length h2 + 1) * 16 ≤ 140737488355328, InR IntKind.i64 (v51 + 1)]) := by kernel_rfl
theorem p23_9 (v51 : Int) (h2 : List ByteArray) (x0 : List (List ByteArray)) (v45 : Int) (h0 : List Int) (h1 : List ByteArray) : Am.runN tab ext23 false 81 [] 2000 [] [(9, Ty.str)] [4, 9, 43, 44, 45] [0, 1] [false] (cutAt b23 19) (E23_19 v51 h2 x0 v45 h0 h1) (L23_19 v51 h2 x0 v45 h0 h1) = some (cutAt b23 15, E23_15 (v45 + 1) (h1 ++ [g38_0 (g39_0 h2 (ByteArray.mk #[32, 32])) (ByteArray.mk #[32])]) (x0) (h0), L23_15 (v45 + 1) (h1 ++ [g38_0 (g39_0 h2 (ByteArray.mk #[32, 32])) (ByteArray.mk #[32])]) (x0) (h0), [Decidable.decide (v51 < (↑(List.length (List.getD x0 (Int.toNat v45) [])) : Int)) = Bool.false, P39 h2 (ByteArray.mk #[32, 32]), P38 (g39_0 h2 (ByteArray.mk #[32, 32])) (ByteArray.mk #[32]), (List.length h1 + 1) * 16 ≤ 140737488355328, InR IntKind.i64 (v45 + 1)]) := by kernel_rfl
theorem snd23 : ∀ n, (∀ (x0 : List (List ByteArray)) ds, R23 n x0 ds → ∀ K q, AtV Tryd.prog 23 (PostR kds23 oks23 ds [] [] q K) 81 K q [] [.code b23] (entE 0 0 sig23 (x0, ())) (entL sig23 (x0, ()))) ∧ (∀ (v20 : Int) (h0 : List Int) (x0 : List (List ByteArray)) ds, R23_5 n v20 h0 x0 ds → ∀ K q, AtV Tryd.prog 23 (PostR kds23 oks23 ds [] [] q K) 81 K q [] (cutAt b23 5) (E23_5 v20 h0 x0) (L23_5 v20 h0 x0)) ∧ (∀ (v26 : Int) (h0 : List Int) (x0 : List (List ByteArray)) (v20 : Int) ds, R23_8 n v26 h0 x0 v20 ds → ∀ K q, AtV Tryd.prog 23 (PostR kds23 oks23 ds [] [] q K) 81 K q [] (cutAt b23 8) (E23_8 v26 h0 x0 v20) (L23_8 v26 h0 x0 v20)) ∧ (∀ (v45 : Int) (h1 : List ByteArray) (x0 : List (List ByteArray)) (h0 : List Int) ds, R23_15 n v45 h1 x0 h0 ds → ∀ K q, AtV Tryd.prog 23 (PostR kds23 oks23 ds [] [] q K) 81 K q [] (cutAt b23 15) (E23_15 v45 h1 x0 h0) (L23_15 v45 h1 x0 h0)) ∧ (∀ (v51 : Int) (h2 : List ByteArray) (x0 : List (List ByteArray)) (v45 : Int) (h0 : List Int) (h1 : List ByteArray) ds, R23_19 n v51 h2 x0 v45 h0 h1 ds → ∀ K q, AtV Tryd.prog 23 (PostR kds23 oks23 ds [] [] q K) 81 K q [] (cutAt b23 19) (E23_19 v51 h2 x0 v45 h0 h1) (L23_19 v51 h2 x0 v45 h0 h1)) := by
  intro n
  induction n with
  | zero => exact ⟨fun _ _ h => by simp only [R23] at h, fun _ _ _ _ h => by simp only [R23_5] at h, fun _ _ _ _ _ h => by simp only [R23_8] at h, fun _ _ _ _ _ h => by simp only [R23_15] at h, fun _ _ _ _ _ _ _ h => by simp only [R23_19] at h⟩
  | succ n ih =>
  obtain ⟨ih, ih5, ih8, ih15, ih19⟩ := ih
  refine ⟨?_, ?_, ?_, ?_, ?_⟩
  · intro x0 ds h K q
    rw [R23] at h
    by_cases b0 : (g34c35_0 x0) = true
    · rw [if_pos b0] at h
      subst h
      exact AtV.fin Tryd.func23 tabOk ext23Ok mixed (p23_0 x0) ⟨trivial, b0, trivial⟩
    · rw [if_neg b0] at h
      replace b0 := Bool.eq_false_iff.2 b0
      exact AtV.runN tabOk ext23Ok mixed (p23_1 x0) ⟨trivial, b0, (by decide), (by decide), (by decide), trivial⟩ (ih5 _ _ _ _ h K q)

  · intro v20 h0 x0 ds h K q
    rw [R23_5] at h
    by_cases b0 : (Decidable.decide (v20 < (↑(List.length x0) : Int))) = true
    · rw [if_pos b0] at h
      obtain ⟨s0, s1, h⟩ := h
      exact AtV.runN tabOk ext23Ok mixed (p23_2 v20 h0 x0) ⟨b0, s0, s1, trivial⟩ (ih8 _ _ _ _ _ h K q)
    · rw [if_neg b0] at h
      replace b0 := Bool.eq_false_iff.2 b0
      exact AtV.runN tabOk ext23Ok mixed (p23_3 v20 h0 x0) ⟨b0, trivial⟩ (ih15 _ _ _ _ _ h K q)

  · intro v26 h0 x0 v20 ds h K q
    rw [R23_8] at h
    by_cases b0 : (Decidable.decide (v26 < (↑(List.length (List.getD x0 (Int.toNat v20) [])) : Int))) = true
    · rw [if_pos b0] at h
      obtain ⟨s0, s1, h⟩ := h
      obtain ⟨s2, s3, h⟩ := h
      obtain ⟨s4, s5, h⟩ := h
      obtain ⟨s6, h⟩ := h
      exact AtV.runN tabOk ext23Ok mixed (p23_4 v26 h0 x0 v20) ⟨b0, s0, s1, s2, s3, s4, s5, s6, trivial⟩ (ih8 _ _ _ _ _ h K q)
    · rw [if_neg b0] at h
      replace b0 := Bool.eq_false_iff.2 b0
      obtain ⟨s0, h⟩ := h
      exact AtV.runN tabOk ext23Ok mixed (p23_5 v26 h0 x0 v20) ⟨b0, s0, trivial⟩ (ih5 _ _ _ _ h K q)

  · intro v45 h1 x0 h0 ds h K q
    rw [R23_15] at h
    by_cases b0 : (Decidable.decide (v45 < (↑(List.length x0) : Int))) = true
    · rw [if_pos b0] at h
      obtain ⟨s0, s1, h⟩ := h
      exact AtV.runN tabOk ext23Ok mixed (p23_6 v45 h1 x0 h0) ⟨b0, s0, s1, trivial⟩ (ih19 _ _ _ _ _ _ _ h K q)
    · rw [if_neg b0] at h
      replace b0 := Bool.eq_false_iff.2 b0
      subst h
      exact AtV.fin Tryd.func23 tabOk ext23Ok mixed (p23_7 v45 h1 x0 h0) ⟨b0, trivial, trivial⟩

  · intro v51 h2 x0 v45 h0 h1 ds h K q
    rw [R23_19] at h
    by_cases b0 : (Decidable.decide (v51 < (↑(List.length (List.getD x0 (Int.toNat v45) [])) : Int))) = true
    · rw [if_pos b0] at h
      obtain ⟨s0, s1, h⟩ := h
      obtain ⟨s2, s3, h⟩ := h
      obtain ⟨s4, h⟩ := h
      obtain ⟨s5, h⟩ := h
      obtain ⟨s6, h⟩ := h
      obtain ⟨s7, h⟩ := h
      obtain ⟨s8, h⟩ := h
      exact AtV.runN tabOk ext23Ok mixed (p23_8 v51 h2 x0 v45 h0 h1) ⟨b0, s0, s1, s2, s3, s4, s5, s6, s7, s8, trivial⟩ (ih19 _ _ _ _ _ _ _ h K q)
    · rw [if_neg b0] at h
      replace b0 := Bool.eq_false_iff.2 b0
      obtain ⟨s0, h⟩ := h
      obtain ⟨s1, h⟩ := h
      obtain ⟨s2, h⟩ := h
      obtain ⟨s3, h⟩ := h
      exact AtV.runN tabOk ext23Ok mixed (p23_9 v51 h2 x0 v45 h0 h1) ⟨b0, s0, s1, s2, s3, trivial⟩ (ih15 _ _ _ _ _ h K q)



def up23 (h : List Int) (k : Nat) (c : ByteArray) : List Int := h.set k (if h.getD k 0 < ((c.size : Nat) : Int) then ((c.size : Nat) : Int) else h.getD k 0)
def row23 : Nat → List ByteArray → List Int → List Int
  | _, [], h => h
  | k, c :: r, h => row23 (k + 1) r (up23 h k c)
def wide23 (x0 : List (List ByteArray)) : List Int := x0.foldl (fun h r => row23 0 r h) [0, 0, 0, 0, 0, 0, 0, 0, 0, 0, 0, 0]
def wd23 (h : List Int) (k : Nat) (c : ByteArray) : ByteArray := c ++ g37_0 (ByteArray.mk #[32]) (h.getD k 0 - ((c.size : Nat) : Int))
def words23 (h : List Int) : Nat → List ByteArray → List ByteArray
  | _, [] => []
  | k, c :: r => wd23 h k c :: words23 h (k + 1) r
def fin23 (w : List ByteArray) : ByteArray := g38_0 (g39_0 w (ByteArray.mk #[32, 32])) (ByteArray.mk #[32])
def line23 (h : List Int) (r : List ByteArray) : ByteArray := fin23 (words23 h 0 r)

def P23 (x0 : List (List ByteArray)) : Prop := x0.length ≤ 1000000 ∧ ∀ r ∈ x0, r.length ≤ 12 ∧ ∀ c ∈ r, c.size ≤ 4000000
def g23_0 (x0 : List (List ByteArray)) : List ByteArray := if g34c35_0 x0 = true then [] else g40_0 (x0.map (line23 (wide23 x0)))
def g23_1 (x0 : List (List ByteArray)) : Int := if g34c35_0 x0 = true then 2 else g40_1 (x0.map (line23 (wide23 x0)))

def Wid23 (h : List Int) : Prop := h.length = 12 ∧ ∀ c ∈ h, 0 ≤ c ∧ c ≤ 4000000
theorem wget23 {h : List Int} (hw : Wid23 h) (k : Nat) : 0 ≤ h.getD k 0 ∧ h.getD k 0 ≤ 4000000 := by
  by_cases hk : k < h.length
  · exact hw.2 _ (mem_getD h k 0 hk)
  · rw [List.getD_eq_getElem?_getD, List.getElem?_eq_none (by omega)]
    exact ⟨Int.le_refl _, by decide⟩
theorem wup23 {h : List Int} (hw : Wid23 h) (k : Nat) {c : ByteArray} (hc : c.size ≤ 4000000) : Wid23 (up23 h k c) := by
  have hg := wget23 hw k
  refine ⟨by unfold up23; rw [List.length_set]; exact hw.1, fun y hy => ?_⟩
  unfold up23 at hy
  rcases List.mem_or_eq_of_mem_set hy with hy | rfl
  · exact hw.2 y hy
  · split <;> omega
theorem wrow23 : ∀ (r : List ByteArray) (k : Nat) (h : List Int), Wid23 h → (∀ c ∈ r, c.size ≤ 4000000) → Wid23 (row23 k r h)
  | [], _, _, hw, _ => hw
  | c :: r, k, h, hw, hc => wrow23 r (k + 1) _ (wup23 hw k (hc c (List.mem_cons_self ..))) (fun d hd => hc d (List.mem_cons_of_mem _ hd))

theorem upget23 (h : List Int) (k : Nat) (c : ByteArray) (j : Nat) : h.getD j 0 ≤ (up23 h k c).getD j 0 ∧ (k < h.length → ((c.size : Nat) : Int) ≤ (up23 h k c).getD k 0) := by
  unfold up23
  constructor
  · rw [List.getD_eq_getElem?_getD, List.getD_eq_getElem?_getD, List.getElem?_set]
    by_cases hjk : k = j
    · subst hjk
      by_cases hk : k < h.length
      · rw [if_pos rfl, if_pos hk, List.getD_eq_getElem?_getD]
        simp only [Option.getD_some]
        split <;> omega
      · rw [if_pos rfl, if_neg hk, List.getElem?_eq_none (by omega)]
        exact Int.le_refl _
    · rw [if_neg hjk]; exact Int.le_refl _
  · intro hk
    rw [List.getD_eq_getElem?_getD, List.getElem?_set, if_pos rfl, if_pos hk]
    simp only [Option.getD_some]
    split <;> omega

theorem rowmono23 : ∀ (r : List ByteArray) (k : Nat) (h : List Int) (j : Nat), h.getD j 0 ≤ (row23 k r h).getD j 0
  | [], _, _, _ => Int.le_refl _
  | c :: r, k, h, j => Int.le_trans (upget23 h k c j).1 (rowmono23 r (k + 1) _ j)

theorem rowcov23 : ∀ (r : List ByteArray) (k : Nat) (h : List Int), k + r.length ≤ h.length → ∀ j, j < r.length → (((r.getD j ByteArray.empty).size : Nat) : Int) ≤ (row23 k r h).getD (k + j) 0
  | [], _, _, _, j, hj => by cases hj
  | c :: r, k, h, hl, j, hj => by
    have hk : k < h.length := by simp at hl; omega
    cases j with
    | zero => exact Int.le_trans ((upget23 h k c k).2 hk) (rowmono23 r (k + 1) _ k)
    | succ j =>
      have := rowcov23 r (k + 1) (up23 h k c) (by unfold up23; rw [List.length_set]; simp at hl; omega) j (by simpa using hj)
      rw [show k + (j + 1) = k + 1 + j by omega]
      simpa [row23] using this

theorem foldmono23 : ∀ (l : List (List ByteArray)) (h : List Int) (j : Nat), h.getD j 0 ≤ (l.foldl (fun h r => row23 0 r h) h).getD j 0
  | [], _, _ => Int.le_refl _
  | r :: l, h, j => Int.le_trans (rowmono23 r 0 h j) (foldmono23 l _ j)

theorem foldcov23 : ∀ (l : List (List ByteArray)) (h : List Int), Wid23 h → (∀ r ∈ l, r.length ≤ 12 ∧ ∀ c ∈ r, c.size ≤ 4000000) → Wid23 (l.foldl (fun h r => row23 0 r h) h) ∧ ∀ r ∈ l, ∀ j, j < r.length → (((r.getD j ByteArray.empty).size : Nat) : Int) ≤ (l.foldl (fun h r => row23 0 r h) h).getD j 0
  | [], h, hw, _ => ⟨hw, fun r hr => by cases hr⟩
  | q :: l, h, hw, hr => by
    obtain ⟨q1, q2⟩ := hr q (List.mem_cons_self ..)
    obtain ⟨i1, i2⟩ := foldcov23 l (row23 0 q h) (wrow23 q 0 h hw q2) (fun r h => hr r (List.mem_cons_of_mem _ h))
    refine ⟨i1, fun r hm j hj => ?_⟩
    rcases List.mem_cons.1 hm with rfl | hm
    · have := rowcov23 r 0 h (by rw [hw.1]; omega) j hj
      rw [Nat.zero_add] at this
      exact Int.le_trans this (foldmono23 l _ j)
    · exact i2 r hm j hj

theorem wdsize23 {h : List Int} (hw : Wid23 h) {k : Nat} {c : ByteArray} (hc : ((c.size : Nat) : Int) ≤ h.getD k 0) : (wd23 h k c).size ≤ 4000000 := by
  have hg := wget23 hw k
  unfold wd23 g37_0
  rw [ByteArray.size_append]
  have : (ByteArray.mk (Lib.repeatL (ByteArray.mk #[32]).data.toList (h.getD k 0 - ((c.size : Nat) : Int)).toNat).toArray).size = (h.getD k 0 - ((c.size : Nat) : Int)).toNat * 1 := by
    show (List.toArray _).size = _
    rw [List.size_toArray, Lib.repeatL_length]
    rfl
  rw [this]
  omega

theorem joinlen23 : ∀ (w : List (List UInt8)), (∀ x ∈ w, x.length ≤ 4000000) → (Lib.joinTail [32, 32] w).length ≤ w.length * 4000002
  | [], _ => by simp [Lib.joinTail]
  | x :: r, h => by
    have := joinlen23 r (fun y hy => h y (List.mem_cons_of_mem _ hy))
    have hx := h x (List.mem_cons_self ..)
    simp only [Lib.joinTail, List.map_cons, List.flatten_cons, List.length_append, List.length_cons, List.length_nil] at this ⊢
    omega

theorem finpre23 {w : List ByteArray} (hl : w.length ≤ 12) (hw : ∀ x ∈ w, x.size ≤ 4000000) : P39 w (ByteArray.mk #[32, 32]) ∧ P38 (g39_0 w (ByteArray.mk #[32, 32])) (ByteArray.mk #[32]) := by
  refine ⟨⟨by omega, ?_⟩, ⟨32, rfl, by decide⟩⟩
  cases w with
  | nil => exact Nat.zero_le _
  | cons x r =>
    have e : (ByteArray.mk #[32, 32]).data.toList = [32, 32] := rfl
    rw [e, List.map_cons, Lib.join_cons, List.length_append]
    have h1 : x.data.toList.length ≤ 4000000 := hw x (List.mem_cons_self ..)
    have h2 := joinlen23 (r.map fun x => x.data.toList) (fun y hy => by
      obtain ⟨z, hz, rfl⟩ := List.mem_map.1 hy
      exact hw z (List.mem_cons_of_mem _ hz))
    rw [List.length_map] at h2
    simp only [List.length_cons] at hl
    omega

section
variable {x0 : List (List ByteArray)} {ds : List Dyn}

theorem l1923 {v45 : Nat} {h0 : List Int} {h1 : List ByteArray} (hw : Wid23 h0) (hr : (x0.getD v45 []).length ≤ 12) (hc : ∀ c ∈ x0.getD v45 [], c.size ≤ 4000000) (hcov : ∀ j, j < (x0.getD v45 []).length → ((((x0.getD v45 []).getD j ByteArray.empty).size : Nat) : Int) ≤ h0.getD j 0) (hv : v45 < 1000000) (hl : h1.length ≤ 1000000) :
    ∀ (k v51 : Nat) (h2 : List ByteArray), v51 + k = (x0.getD v45 []).length → h2.length = v51 → (∀ x ∈ h2, x.size ≤ 4000000) → (∃ n, R23_15 n ((v45 : Int) + 1) (h1 ++ [fin23 (h2 ++ words23 h0 v51 ((x0.getD v45 []).drop v51))]) x0 h0 ds) → ∃ n, R23_19 n (v51 : Int) h2 x0 (v45 : Int) h0 h1 ds := by
  intro k
  induction k with
  | zero =>
    intro v51 h2 hk h2l h2s ⟨n, hn⟩
    rw [drop_end _ v51 (by omega)] at hn
    simp only [words23, List.append_nil] at hn
    obtain ⟨p1, p2⟩ := finpre23 (w := h2) (by omega) h2s
    refine ⟨n + 1, ?_⟩
    rw [R23_19]
    simp only [Int.toNat_natCast]
    rw [if_neg (by simp only [decide_eq_true_eq]; omega)]
    exact ⟨p1, p2, by omega, by rw [i64_iff]; omega, hn⟩
  | succ k ih =>
    intro v51 h2 hk h2l h2s hn
    have h5 : v51 < (x0.getD v45 []).length := by omega
    have hcell := hcov v51 h5
    have hg := wget23 hw v51
    rw [drop_get _ v51 ByteArray.empty h5] at hn
    simp only [words23] at hn
    have hsz := wdsize23 hw hcell
    obtain ⟨n, hn⟩ := ih (v51 + 1) (h2 ++ [wd23 h0 v51 ((x0.getD v45 []).getD v51 ByteArray.empty)]) (by omega) (by rw [List.length_append, h2l]; rfl) (fun x hx => by
      rcases List.mem_append.1 hx with hx | hx
      · exact h2s x hx
      · rw [List.mem_singleton.1 hx]; exact hsz) (by rw [List.append_assoc, List.singleton_append]; exact hn)
    have hsz2 : ((x0.getD v45 []).getD v51 ByteArray.empty).size + (g37_0 (ByteArray.mk #[32]) (h0.getD v51 0 - ((((x0.getD v45 []).getD v51 ByteArray.empty).size : Nat) : Int))).size ≤ 4000000 := by
      have := hsz
      unfold wd23 at this
      rwa [ByteArray.size_append] at this
    have s1 : (ByteArray.mk #[32]).size = 1 := rfl
    have hlen := hw.1
    refine ⟨n + 1, ?_⟩
    rw [R23_19]
    simp only [Int.toNat_natCast]
    rw [if_pos (by simp only [decide_eq_true_eq]; omega)]
    exact ⟨by omega, by omega, by omega, by omega, by rw [i64_iff]; omega, ⟨by omega, by rw [s1]; omega⟩, by omega, by omega, by rw [i64_iff]; omega, hn⟩

theorem l1523 {h0 : List Int} (hw : Wid23 h0) (hx : x0.length ≤ 1000000) (hr : ∀ r ∈ x0, r.length ≤ 12 ∧ ∀ c ∈ r, c.size ≤ 4000000) (hcov : ∀ r ∈ x0, ∀ j, j < r.length → (((r.getD j ByteArray.empty).size : Nat) : Int) ≤ h0.getD j 0) : ∀ (k v45 : Nat) (h1 : List ByteArray), v45 + k = x0.length → h1.length = v45 →
    ∃ n, R23_15 n (v45 : Int) h1 x0 h0 [⟨.sl .str, g40_0 (h1 ++ (x0.drop v45).map (line23 h0))⟩, ⟨.int .i64, g40_1 (h1 ++ (x0.drop v45).map (line23 h0))⟩] := by
  intro k
  induction k with
  | zero =>
    intro v45 h1 hk hl
    refine ⟨1, ?_⟩
    rw [R23_15, if_neg (by simp only [decide_eq_true_eq]; omega), drop_end _ v45 (by omega)]
    simp
  | succ k ih =>
    intro v45 h1 hk hl
    have h7 : v45 < x0.length := by omega
    have hm := mem_getD x0 v45 [] h7
    obtain ⟨r1, r2⟩ := hr _ hm
    obtain ⟨n, hn⟩ := ih (v45 + 1) (h1 ++ [line23 h0 (x0.getD v45 [])]) (by omega) (by rw [List.length_append, hl]; rfl)
    have e : h1 ++ [line23 h0 (x0.getD v45 [])] ++ List.map (line23 h0) (x0.drop (v45 + 1)) = h1 ++ List.map (line23 h0) (x0.drop v45) := by
      rw [drop_get x0 v45 [] h7]; simp
    have e1 : (((v45 + 1 : Nat)) : Int) = (v45 : Int) + 1 := by omega
    rw [e, e1] at hn
    obtain ⟨n', hn'⟩ := l1923 (h1 := h1) (v45 := v45) hw r1 r2 (hcov _ hm) (by omega) (by omega) (x0.getD v45 []).length 0 [] (by omega) rfl (fun x hx => by cases hx) ⟨n, hn⟩
    refine ⟨n' + 1, ?_⟩
    rw [R23_15, if_pos (by simp only [decide_eq_true_eq]; omega)]
    exact ⟨by omega, by omega, hn'⟩

theorem l823 {v20 : Nat} (hr : (x0.getD v20 []).length ≤ 12) (hc : ∀ c ∈ x0.getD v20 [], c.size ≤ 4000000) (hv : v20 < 1000000) :
    ∀ (k v26 : Nat) (h0 : List Int), v26 + k = (x0.getD v20 []).length → Wid23 h0 → (∃ n, R23_5 n ((v20 : Int) + 1) (row23 v26 ((x0.getD v20 []).drop v26) h0) x0 ds) → ∃ n, R23_8 n (v26 : Int) h0 x0 (v20 : Int) ds := by
  intro k
  induction k with
  | zero =>
    intro v26 h0 hk hw ⟨n, hn⟩
    rw [drop_end _ v26 (by omega)] at hn
    refine ⟨n + 1, ?_⟩
    rw [R23_8]
    simp only [Int.toNat_natCast]
    rw [if_neg (by simp only [decide_eq_true_eq]; omega)]
    exact ⟨by rw [i64_iff]; omega, hn⟩
  | succ k ih =>
    intro v26 h0 hk hw hn
    have h5 : v26 < (x0.getD v20 []).length := by omega
    have hcell := hc _ (mem_getD (x0.getD v20 []) v26 ByteArray.empty h5)
    have hlen := hw.1
    rw [drop_get _ v26 ByteArray.empty h5] at hn
    simp only [row23] at hn
    obtain ⟨n, hn⟩ := ih (v26 + 1) _ (by omega) (wup23 hw v26 hcell) hn
    refine ⟨n + 1, ?_⟩
    rw [R23_8]
    simp only [Int.toNat_natCast]
    rw [if_pos (by simp only [decide_eq_true_eq]; omega)]
    exact ⟨by omega, by omega, by omega, by omega, by omega, by omega, by rw [i64_iff]; omega, hn⟩

theorem l523 (hx : x0.length ≤ 1000000) (hr : ∀ r ∈ x0, r.length ≤ 12 ∧ ∀ c ∈ r, c.size ≤ 4000000) : ∀ (k v20 : Nat) (h0 : List Int), v20 + k = x0.length → Wid23 h0 → (∃ n, R23_15 n 0 [] x0 ((x0.drop v20).foldl (fun h r => row23 0 r h) h0) ds) → ∃ n, R23_5 n (v20 : Int) h0 x0 ds := by
  intro k
  induction k with
  | zero =>
    intro v20 h0 hk hw ⟨n, hn⟩
    rw [drop_end _ v20 (by omega)] at hn
    refine ⟨n + 1, ?_⟩
    rw [R23_5, if_neg (by simp only [decide_eq_true_eq]; omega)]
    exact hn
  | succ k ih =>
    intro v20 h0 hk hw hn
    have h4 : v20 < x0.length := by omega
    obtain ⟨r1, r2⟩ := hr _ (mem_getD x0 v20 [] h4)
    rw [drop_get x0 v20 [] h4, List.foldl_cons] at hn
    obtain ⟨n, hn⟩ := ih (v20 + 1) (row23 0 (x0.getD v20 []) h0) (by omega) (wrow23 _ 0 h0 hw r2) hn
    have e1 : (((v20 + 1 : Nat)) : Int) = (v20 : Int) + 1 := by omega
    rw [e1] at hn
    obtain ⟨n', hn'⟩ := l823 (x0 := x0) r1 r2 (by omega) (x0.getD v20 []).length 0 h0 (by omega) hw ⟨n, hn⟩
    refine ⟨n' + 1, ?_⟩
    rw [R23_5, if_pos (by simp only [decide_eq_true_eq]; omega)]
    exact ⟨by omega, by omega, hn'⟩
end

theorem w023 : Wid23 [0, 0, 0, 0, 0, 0, 0, 0, 0, 0, 0, 0] := ⟨rfl, by decide⟩

theorem top23 (x0 : List (List ByteArray)) (h : P23 x0) : ∃ n, R23 n x0 [⟨.sl .str, g23_0 x0⟩, ⟨.int .i64, g23_1 x0⟩] := by
  unfold g23_0 g23_1
  by_cases hc : g34c35_0 x0 = true
  · refine ⟨1, ?_⟩
    rw [R23, if_pos hc, if_pos hc, if_pos hc]
  · obtain ⟨i1, i2⟩ := foldcov23 x0 _ w023 h.2
    obtain ⟨n, hn⟩ := l1523 (x0 := x0) (h0 := wide23 x0) i1 h.1 h.2 i2 x0.length 0 [] (by omega) rfl
    obtain ⟨n', hn'⟩ := l523 (x0 := x0) h.1 h.2 x0.length 0 [0, 0, 0, 0, 0, 0, 0, 0, 0, 0, 0, 0] (by omega) w023 ⟨n, hn⟩
    refine ⟨n' + 1, ?_⟩
    rw [R23, if_neg hc, if_neg hc, if_neg hc]
    exact hn'

def S23 : Am.Spec := { sig := sig23, pre := fun ⟨x0, _⟩ => P23 x0, res := fun ⟨x0, _⟩ => [⟨.sl .str, g23_0 x0⟩, ⟨.int .i64, g23_1 x0⟩] }
theorem con23 : Contract Tryd.prog 23 S23 := contract_of Tryd.func23 hb23 (Nat.le_of_ble_eq_true (by kernel_rfl)) (fun ⟨x0, _⟩ h hwf K q =>
  let ⟨n, hn⟩ := top23 x0 h
  (snd23 n).1 x0 _ hn K q)

end
end Go.Proofs.YtpledggbnnjbiaaDoor

/- Function 7 (impl.FareReport): its runs between cut points. Written by a program of this repo (gen). -/
set_option linter.unusedVariables false
set_option linter.unusedSimpArgs false
set_option maxRecDepth 100000
namespace Go.Proofs.YtpledggbnnjbiaaDoor
open Go Go.Am Go.Proofs
noncomputable section
def ext7 : Ext := [(20, S20), (21, S21), (22, S22), (23, S23)]
theorem call7_20 : Callable Tryd.prog 20 := ⟨Tryd.f20, Tryd.func20, by kernel_rfl, by kernel_rfl⟩
theorem call7_21 : Callable Tryd.prog 21 := ⟨Tryd.f21, Tryd.func21, by kernel_rfl, by kernel_rfl⟩
theorem call7_22 : Callable Tryd.prog 22 := ⟨Tryd.f22, Tryd.func22, by kernel_rfl, by kernel_rfl⟩
theorem call7_23 : Callable Tryd.prog 23 := ⟨Tryd.f23, Tryd.func23, by kernel_rfl, by kernel_rfl⟩
theorem ext7Ok : ExtOk Tryd.prog ext7 := ⟨⟨call7_20, con20⟩, ⟨call7_21, con21⟩, ⟨call7_22, con22⟩, ⟨call7_23, con23⟩, trivial⟩

noncomputable def b7 : Code := bodyOf Tryd.f7
theorem hb7 : Tryd.f7.body = some b7 := by kernel_rfl
def sig7 : List AT := [AT.v (Ty.sl (Ty.cons Ty.str (Ty.cons (Ty.int IntKind.i64) (Ty.cons (Ty.int IntKind.i64) (Ty.cons (Ty.int IntKind.i64) Ty.unit)))))]
def tys7 : List Ty := [Ty.sl Ty.str, Ty.int IntKind.i64]
def kds7 : List RK := []
def oks7 : List AT := owns sig7
def E7_5 (v14 : Int) (h0 : List (List ByteArray)) (x0 : List (ByteArray × Int × Int × Int × Unit)) : Env := [(4, PV.a (Atom.osl 0 Option.none)), (12, PV.a (Atom.sl (Ty.cons Ty.str (Ty.cons (Ty.int IntKind.i64) (Ty.cons (Ty.int IntKind.i64) (Ty.cons (Ty.int IntKind.i64) Ty.unit)))) x0)), (13, PV.a (Atom.val (Value.int IntKind.i64 (↑(List.length x0) : Int)))), (14, PV.a (Atom.val (Value.int IntKind.i64 v14)))]
def L7_5 (v14 : Int) (h0 : List (List ByteArray)) (x0 : List (ByteArray × Int × Int × Int × Unit)) : Heap := [Option.some (Arr.mk (Ty.sl Ty.str) h0 Bool.true Option.none Option.none)]
mutual
def R7 : Nat → List (ByteArray × Int × Int × Int × Unit) → List Dyn → Prop
  | 0, _, _ => False
  | n + 1, x0, ds => (if (!g20_0 x0) = true then (ds = [Dyn.mk (Ty.sl Ty.str) [], Dyn.mk (Ty.int IntKind.i64) 1]) else (R7_5 n (0) ([[ByteArray.mk #[102, 97, 114, 101], ByteArray.mk #[112, 114, 105, 99, 101], ByteArray.mk #[114, 105, 100, 101, 115], ByteArray.mk #[100, 97, 121, 115]]]) (x0) ds))
def R7_5 : Nat → Int → List (List ByteArray) → List (ByteArray × Int × Int × Int × Unit) → List Dyn → Prop
  | 0, _, _, _, _ => False
  | n + 1, v14, h0, x0, ds => (if (Decidable.decide (v14 < (↑(List.length x0) : Int))) = true then ((0 ≤ v14) ∧ (v14 < (↑(List.length x0) : Int)) ∧ ((P22 (Prod.fst (Prod.snd (Prod.snd (List.getD x0 (Int.toNat v14) (ByteArray.empty, 0, 0, 0, ())))))) ∧ ((P22 (Prod.fst (Prod.snd (Prod.snd (Prod.snd (List.getD x0 (Int.toNat v14) (ByteArray.empty, 0, 0, 0, ()))))))) ∧ (((List.length h0 + 1) * 24 ≤ 140737488355328) ∧ ((InR IntKind.i64 (v14 + 1)) ∧ (R7_5 n (v14 + 1) (h0 ++ [[Prod.fst (List.getD x0 (Int.toNat v14) (ByteArray.empty, 0, 0, 0, ())), g21_0 (Prod.fst (Prod.snd (List.getD x0 (Int.toNat v14) (ByteArray.empty, 0, 0, 0, ())))) 2, g22_0 (Prod.fst (Prod.snd (Prod.snd (List.getD x0 (Int.toNat v14) (ByteArray.empty, 0, 0, 0, ()))))), g22_0 (Prod.fst (Prod.snd (Prod.snd (Prod.snd (List.getD x0 (Int.toNat v14) (ByteArray.empty, 0, 0, 0, ()))))))]]) (x0) ds)))))) else ((P23 h0) ∧ (ds = [Dyn.mk (Ty.sl Ty.str) (g23_0 h0), Dyn.mk (Ty.int IntKind.i64) (g23_1 h0)])))
end
theorem p7_0 (x0 : List (ByteArray × Int × Int × Int × Unit)) : runF tab ext7 false 38 [] 2000 [] oks7 kds7 tys7 Tryd.f7.results [true] [.code b7] (entE 0 0 sig7 (x0, ())) (entL sig7 (x0, ())) = some ([Dyn.mk (Ty.sl Ty.str) [], Dyn.mk (Ty.int IntKind.i64) 1], [], [True, (!g20_0 x0) = Bool.true]) := by kernel_rfl
theorem p7_1 (x0 : List (ByteArray × Int × Int × Int × Unit)) : Am.runN tab ext7 false 38 [] 2000 [] [] [4, 12, 13, 14] [1] [false] [.code b7] (entE 0 0 sig7 (x0, ())) (entL sig7 (x0, ())) = some (cutAt b7 5, E7_5 (0) ([[ByteArray.mk #[102, 97, 114, 101], ByteArray.mk #[112, 114, 105, 99, 101], ByteArray.mk #[114, 105, 100, 101, 115], ByteArray.mk #[100, 97, 121, 115]]]) (x0), L7_5 (0) ([[ByteArray.mk #[102, 97, 114, 101], ByteArray.mk #[112, 114, 105, 99, 101], ByteArray.mk #[114, 105, 100, 101, 115], ByteArray.mk #[100, 97, 121, 115]]]) (x0), [True, (!g20_0 x0) = Bool.false]) := by kernel_rfl
theorem p7_2 (v14 : Int) (h0 : List (List ByteArray)) (x0 : List (ByteArray × Int × Int × Int × Unit)) : Am.runN tab ext7 false 38 [] 2000 [] [] [4, 12, 13, 14] [0] [true] (cutAt b7 5) (E7_5 v14 h0 x0) (L7_5 v14 h0 x0) = some (cutAt b7 5, E7_5 (v14 + 1) (h0 ++ [[Prod.fst (List.getD x0 (Int.toNat v14) (ByteArray.empty, 0, 0, 0, ())), g21_0 (Prod.fst (Prod.snd (List.getD x0 (Int.toNat v14) (ByteArray.empty, 0, 0, 0, ())))) 2, g22_0 (Prod.fst (Prod.snd (Prod.snd (List.getD x0 (Int.toNat v14) (ByteArray.empty, 0, 0, 0, ()))))), g22_0 (Prod.fst (Prod.snd (Prod.snd (Prod.snd (List.getD x0 (Int.toNat v14) (ByteArray.empty, 0, 0, 0, ()))))))]]) (x0), L7_5 (v14 + 1) (h0 ++ [[Prod.fst (List.getD x0 (Int.toNat v14) (ByteArray.empty, 0, 0, 0, ())), g21_0 (Prod.fst (Prod.snd (List.getD x0 (Int.toNat v14) (ByteArray.empty, 0, 0, 0, ())))) 2, g22_0 (Prod.fst (Prod.snd (Prod.snd (List.getD x0 (Int.toNat v14) (ByteArray.empty, 0, 0, 0, ()))))), g22_0 (Prod.fst (Prod.snd (Prod.snd (Prod.snd (List.getD x0 (Int.toNat v14) (ByteArray.empty, 0, 0, 0, ()))))))]]) (x0), [Decidable.decide (v14 < (↑(List.length x0) : Int)) = Bool.true, 0 ≤ v14, v14 < (↑(List.length x0) : Int), True, P22 (Prod.fst (Prod.snd (Prod.snd (List.getD x0 (Int.toNat v14) (ByteArray.empty, 0, 0, 0, ()))))), P22 (Prod.fst (Prod.snd (Prod.snd (Prod.snd (List.getD x0 (Int.toNat v14) (ByteArray.empty, 0, 0, 0, ())))))), (List.length h0 + 1) * 24 ≤ 140737488355328, InR IntKind.i64 (v14 + 1)]) := by kernel_rfl
theorem p7_3 (v14 : Int) (h0 : List (List ByteArray)) (x0 : List (ByteArray × Int × Int × Int × Unit)) : runF tab ext7 false 38 [] 2000 [] oks7 kds7 tys7 Tryd.f7.results [false] (cutAt b7 5) (E7_5 v14 h0 x0) (L7_5 v14 h0 x0) = some ([Dyn.mk (Ty.sl Ty.str) (g23_0 h0), Dyn.mk (Ty.int IntKind.i64) (g23_1 h0)], [], [Decidable.decide (v14 < (↑(List.length x0) : Int)) = Bool.false, P23 h0]) := by kernel_rfl
theorem snd7 : ∀ n, (∀ (x0 : List (ByteArray × Int × Int × Int × Unit)) ds, R7 n x0 ds → ∀ K q, AtV Tryd.prog 7 (PostR kds7 oks7 ds [] [] q K) 38 K q [] [.code b7] (entE 0 0 sig7 (x0, ())) (entL sig7 (x0, ()))) ∧ (∀ (v14 : Int) (h0 : List (List ByteArray)) (x0 : List (ByteArray × Int × Int × Int × Unit)) ds, R7_5 n v14 h0 x0 ds → ∀ K q, AtV Tryd.prog 7 (PostR kds7 oks7 ds [] [] q K) 38 K q [] (cutAt b7 5) (E7_5 v14 h0 x0) (L7_5 v14 h0 x0)) := by
  intro n
  induction n with
  | zero => exact ⟨fun _ _ h => by simp only [R7] at h, fun _ _ _ _ h => by simp only [R7_5] at h⟩
  | succ n ih =>
  obtain ⟨ih, ih5⟩ := ih
  refine ⟨?_, ?_⟩
  · intro x0 ds h K q
    rw [R7] at h
    by_cases b0 : (!g20_0 x0) = true
    · rw [if_pos b0] at h
      subst h
      exact AtV.fin Tryd.func7 tabOk ext7Ok mixed (p7_0 x0) ⟨trivial, b0, trivial⟩
    · rw [if_neg b0] at h
      replace b0 := Bool.eq_false_iff.2 b0
      exact AtV.runN tabOk ext7Ok mixed (p7_1 x0) ⟨trivial, b0, trivial⟩ (ih5 _ _ _ _ h K q)

  · intro v14 h0 x0 ds h K q
    rw [R7_5] at h
    by_cases b0 : (Decidable.decide (v14 < (↑(List.length x0) : Int))) = true
    · rw [if_pos b0] at h
      obtain ⟨s0, s1, h⟩ := h
      obtain ⟨s2, h⟩ := h
      obtain ⟨s3, h⟩ := h
      obtain ⟨s4, h⟩ := h
      obtain ⟨s5, h⟩ := h
      exact AtV.runN tabOk ext7Ok mixed (p7_2 v14 h0 x0) ⟨b0, s0, s1, trivial, s2, s3, s4, s5, trivial⟩ (ih5 _ _ _ _ h K q)
    · rw [if_neg b0] at h
      replace b0 := Bool.eq_false_iff.2 b0
      obtain ⟨s0, h⟩ := h
      subst h
      exact AtV.fin Tryd.func7 tabOk ext7Ok mixed (p7_3 v14 h0 x0) ⟨b0, s0, trivial⟩



def hd7 : List ByteArray := [ByteArray.mk #[102, 97, 114, 101], ByteArray.mk #[112, 114, 105, 99, 101], ByteArray.mk #[114, 105, 100, 101, 115], ByteArray.mk #[100, 97, 121, 115]]
def rw7 (f : ByteArray × Int × Int × Int × Unit) : List ByteArray := [f.1, g21_0 f.2.1 2, g22_0 f.2.2.1, g22_0 f.2.2.2.1]
def P7 (x0 : List (ByteArray × Int × Int × Int × Unit)) : Prop := g20_0 x0 = true → x0.length ≤ 1000 ∧ ∀ f ∈ x0, P22 f.2.2.1 ∧ P22 f.2.2.2.1 ∧ ∀ c ∈ rw7 f, c.size ≤ 4000000
def g7_0 (x0 : List (ByteArray × Int × Int × Int × Unit)) : List ByteArray := if g20_0 x0 = true then g23_0 (hd7 :: x0.map rw7) else []
def g7_1 (x0 : List (ByteArray × Int × Int × Int × Unit)) : Int := if g20_0 x0 = true then g23_1 (hd7 :: x0.map rw7) else 1

theorem pre7 {x0 : List (ByteArray × Int × Int × Int × Unit)} (hl : x0.length ≤ 1000) (hc : ∀ f ∈ x0, ∀ c ∈ rw7 f, c.size ≤ 4000000) : P23 (hd7 :: x0.map rw7) := by
  refine ⟨by simp only [List.length_cons, List.length_map]; omega, fun r hr => ?_⟩
  rcases List.mem_cons.1 hr with rfl | hr
  · exact ⟨by decide, by decide⟩
  · obtain ⟨f, hf, rfl⟩ := List.mem_map.1 hr
    exact ⟨by show 4 ≤ 12; decide, hc f hf⟩

theorem run7 (x0 : List (ByteArray × Int × Int × Int × Unit)) (hl : x0.length ≤ 1000) (hc : ∀ f ∈ x0, P22 f.2.2.1 ∧ P22 f.2.2.2.1 ∧ ∀ c ∈ rw7 f, c.size ≤ 4000000) : ∀ (k i : Nat), i + k = x0.length →
    R7_5 (k + 1) (i : Int) (hd7 :: (x0.take i).map rw7) x0 [⟨.sl .str, g23_0 (hd7 :: x0.map rw7)⟩, ⟨.int .i64, g23_1 (hd7 :: x0.map rw7)⟩] := by
  intro k
  induction k with
  | zero =>
    intro i hi
    rw [R7_5, if_neg (by simp only [decide_eq_true_eq]; omega), List.take_of_length_le (by omega)]
    exact ⟨pre7 hl (fun f hf => (hc f hf).2.2), rfl⟩
  | succ k ih =>
    intro i hi
    have hlt : i < x0.length := by omega
    have h := ih (i + 1) (by omega)
    have e1 : (((i + 1 : Nat)) : Int) = (i : Int) + 1 := by omega
    rw [e1] at h
    have hm := mem_getD x0 i (ByteArray.empty, (0 : Int), (0 : Int), (0 : Int), ()) hlt
    rw [R7_5, if_pos (by simp only [decide_eq_true_eq]; omega)]
    simp only [Int.toNat_natCast]
    refine ⟨by omega, by omega, (hc _ hm).1, (hc _ hm).2.1, ?_, by rw [i64_iff]; omega, ?_⟩
    · simp only [List.length_cons, List.length_map, List.length_take]; omega
    · have e : x0.take (i + 1) = x0.take i ++ [x0.getD i (ByteArray.empty, (0 : Int), (0 : Int), (0 : Int), ())] := by
        rw [getD_lt x0 i _ hlt, List.take_append_getElem hlt]
      rw [e, List.map_append] at h
      exact h

theorem top7 (x0 : List (ByteArray × Int × Int × Int × Unit)) (h : P7 x0) : ∃ n, R7 n x0 [⟨.sl .str, g7_0 x0⟩, ⟨.int .i64, g7_1 x0⟩] := by
  unfold g7_0 g7_1
  cases hv : g20_0 x0 with
  | false =>
    refine ⟨1, ?_⟩
    rw [R7, if_pos (by rw [hv]; rfl)]
    rfl
  | true =>
    obtain ⟨hl, hc⟩ := h hv
    refine ⟨x0.length + 1 + 1, ?_⟩
    rw [R7, if_neg (by rw [hv]; simp)]
    simp only [if_true]
    exact run7 x0 hl hc x0.length 0 (by omega)

def S7 : Am.Spec := { sig := sig7, pre := fun ⟨x0, _⟩ => P7 x0, res := fun ⟨x0, _⟩ => [⟨.sl .str, g7_0 x0⟩, ⟨.int .i64, g7_1 x0⟩] }
theorem con7 : Contract Tryd.prog 7 S7 := contract_of Tryd.func7 hb7 (Nat.le_of_ble_eq_true (by kernel_rfl)) (fun ⟨x0, _⟩ h hwf K q =>
  let ⟨n, hn⟩ := top7 x0 h
  (snd7 n).1 x0 _ hn K q)

end
end Go.Proofs.YtpledggbnnjbiaaDoor

/- Function 8 (laws.eqStringS): its runs between cut points. Written by a program of this repo (gen). -/
set_option linter.unusedVariables false
set_option linter.unusedSimpArgs false
set_option maxRecDepth 100000
namespace Go.Proofs.YtpledggbnnjbiaaDoor
open Go Go.Am Go.Proofs
noncomputable section
def ext8 : Ext := []
theorem ext8Ok : ExtOk Tryd.prog ext8 := trivial

noncomputable def b8 : Code := bodyOf Tryd.f8
theorem hb8 : Tryd.f8.body = some b8 := by kernel_rfl
def sig8 : List AT := [AT.v (Ty.sl Ty.str), AT.v (Ty.sl Ty.str)]
def tys8 : List Ty := [Ty.bool]
def kds8 : List RK := []
def oks8 : List AT := owns sig8
def E8_4 (v5 : Int) (x0 : List ByteArray) (x1 : List ByteArray) : Env := [(0, PV.a (Atom.sl Ty.str x0)), (1, PV.a (Atom.sl Ty.str x1)), (5, PV.a (Atom.val (Value.int IntKind.i64 v5)))]
def L8_4 (v5 : Int) (x0 : List ByteArray) (x1 : List ByteArray) : Heap := []
mutual
def R8 : Nat → List ByteArray → List ByteArray → List Dyn → Prop
  | 0, _, _, _ => False
  | n + 1, x0, x1, ds => (if ((↑(List.length x0) : Int) != (↑(List.length x1) : Int)) = true then (ds = [Dyn.mk Ty.bool Bool.false]) else (R8_4 n (0) (x0) (x1) ds))
def R8_4 : Nat → Int → List ByteArray → List ByteArray → List Dyn → Prop
  | 0, _, _, _, _ => False
  | n + 1, v5, x0, x1, ds => (if (Decidable.decide (v5 < (↑(List.length x0) : Int))) = true then ((0 ≤ v5) ∧ (v5 < (↑(List.length x0) : Int)) ∧ ((0 ≤ v5) ∧ (v5 < (↑(List.length x1) : Int)) ∧ (if (!ByteArray.toList (List.getD x0 (Int.toNat v5) ByteArray.empty) == ByteArray.toList (List.getD x1 (Int.toNat v5) ByteArray.empty)) = true then (ds = [Dyn.mk Ty.bool Bool.false]) else ((InR IntKind.i64 (v5 + 1)) ∧ (R8_4 n (v5 + 1) (x0) (x1) ds))))) else (ds = [Dyn.mk Ty.bool Bool.true]))
end
theorem p8_0 (x0 : List ByteArray) (x1 : List ByteArray) : runF tab ext8 false 26 [] 2000 [] oks8 kds8 tys8 Tryd.f8.results [true] [.code b8] (entE 0 0 sig8 (x0, x1, ())) (entL sig8 (x0, x1, ())) = some ([Dyn.mk Ty.bool Bool.false], [], [((↑(List.length x0) : Int) != (↑(List.length x1) : Int)) = Bool.true]) := by kernel_rfl
theorem p8_1 (x0 : List ByteArray) (x1 : List ByteArray) : Am.runN tab ext8 false 26 [] 2000 [] [] [0, 1, 5] [] [false] [.code b8] (entE 0 0 sig8 (x0, x1, ())) (entL sig8 (x0, x1, ())) = some (cutAt b8 4, E8_4 (0) (x0) (x1), L8_4 (0) (x0) (x1), [((↑(List.length x0) : Int) != (↑(List.length x1) : Int)) = Bool.false]) := by kernel_rfl
theorem p8_2 (v5 : Int) (x0 : List ByteArray) (x1 : List ByteArray) : runF tab ext8 false 26 [] 2000 [] oks8 kds8 tys8 Tryd.f8.results [true, true] (cutAt b8 4) (E8_4 v5 x0 x1) (L8_4 v5 x0 x1) = some ([Dyn.mk Ty.bool Bool.false], [], [Decidable.decide (v5 < (↑(List.length x0) : Int)) = Bool.true, 0 ≤ v5, v5 < (↑(List.length x0) : Int), 0 ≤ v5, v5 < (↑(List.length x1) : Int), (!ByteArray.toList (List.getD x0 (Int.toNat v5) ByteArray.empty) == ByteArray.toList (List.getD x1 (Int.toNat v5) ByteArray.empty)) = Bool.true]) := by kernel_rfl
theorem p8_3 (v5 : Int) (x0 : List ByteArray) (x1 : List ByteArray) : Am.runN tab ext8 false 26 [] 2000 [] [] [0, 1, 5] [] [true, false] (cutAt b8 4) (E8_4 v5 x0 x1) (L8_4 v5 x0 x1) = some (cutAt b8 4, E8_4 (v5 + 1) (x0) (x1), L8_4 (v5 + 1) (x0) (x1), [Decidable.decide (v5 < (↑(List.length x0) : Int)) = Bool.true, 0 ≤ v5, v5 < (↑(List.length x0) : Int), 0 ≤ v5, v5 < (↑(List.length x1) : Int), (!ByteArray.toList (List.getD x0 (Int.toNat v5) ByteArray.empty) == ByteArray.toList (List.getD x1 (Int.toNat v5) ByteArray.empty)) = Bool.false, InR IntKind.i64 (v5 + 1)]) := by kernel_rfl
theorem p8_4 (v5 : Int) (x0 : List ByteArray) (x1 : List ByteArray) : runF tab ext8 false 26 [] 2000 [] oks8 kds8 tys8 Tryd.f8.results [false] (cutAt b8 4) (E8_4 v5 x0 x1) (L8_4 v5 x0 x1) = some ([Dyn.mk Ty.bool Bool.true], [], [Decidable.decide (v5 < (↑(List.length x0) : Int)) = Bool.false]) := by kernel_rfl
theorem snd8 : ∀ n, (∀ (x0 : List ByteArray) (x1 : List ByteArray) ds, R8 n x0 x1 ds → ∀ K q, AtV Tryd.prog 8 (PostR kds8 oks8 ds [] [] q K) 26 K q [] [.code b8] (entE 0 0 sig8 (x0, x1, ())) (entL sig8 (x0, x1, ()))) ∧ (∀ (v5 : Int) (x0 : List ByteArray) (x1 : List ByteArray) ds, R8_4 n v5 x0 x1 ds → ∀ K q, AtV Tryd.prog 8 (PostR kds8 oks8 ds [] [] q K) 26 K q [] (cutAt b8 4) (E8_4 v5 x0 x1) (L8_4 v5 x0 x1)) := by
  intro n
  induction n with
  | zero => exact ⟨fun _ _ _ h => by simp only [R8] at h, fun _ _ _ _ h => by simp only [R8_4] at h⟩
  | succ n ih =>
  obtain ⟨ih, ih4⟩ := ih
  refine ⟨?_, ?_⟩
  · intro x0 x1 ds h K q
    rw [R8] at h
    by_cases b0 : ((↑(List.length x0) : Int) != (↑(List.length x1) : Int)) = true
    · rw [if_pos b0] at h
      subst h
      exact AtV.fin Tryd.func8 tabOk ext8Ok mixed (p8_0 x0 x1) ⟨b0, trivial⟩
    · rw [if_neg b0] at h
      replace b0 := Bool.eq_false_iff.2 b0
      exact AtV.runN tabOk ext8Ok mixed (p8_1 x0 x1) ⟨b0, trivial⟩ (ih4 _ _ _ _ h K q)

  · intro v5 x0 x1 ds h K q
    rw [R8_4] at h
    by_cases b0 : (Decidable.decide (v5 < (↑(List.length x0) : Int))) = true
    · rw [if_pos b0] at h
      obtain ⟨s0, s1, h⟩ := h
      obtain ⟨s2, s3, h⟩ := h
      by_cases b1 : (!ByteArray.toList (List.getD x0 (Int.toNat v5) ByteArray.empty) == ByteArray.toList (List.getD x1 (Int.toNat v5) ByteArray.empty)) = true
      · rw [if_pos b1] at h
        subst h
        exact AtV.fin Tryd.func8 tabOk ext8Ok mixed (p8_2 v5 x0 x1) ⟨b0, s0, s1, s2, s3, b1, trivial⟩
      · rw [if_neg b1] at h
        replace b1 := Bool.eq_false_iff.2 b1
        obtain ⟨s4, h⟩ := h
        exact AtV.runN tabOk ext8Ok mixed (p8_3 v5 x0 x1) ⟨b0, s0, s1, s2, s3, b1, s4, trivial⟩ (ih4 _ _ _ _ h K q)
    · rw [if_neg b0] at h
      replace b0 := Bool.eq_false_iff.2 b0
      subst h
      exact AtV.fin Tryd.func8 tabOk ext8Ok mixed (p8_4 v5 x0 x1) ⟨b0, trivial⟩



theorem eq8 (x0 x1 : List (ByteArray)) (hl : x0.length = x1.length) (hm : x0.length ≤ maxLen) : ∀ k i : Nat, i + k = x0.length → R8_4 (k + 1) (i : Int) x0 x1 [⟨.bool, decide (x0.drop i = x1.drop i)⟩] := by
  intro k
  induction k with
  | zero =>
    intro i hi
    have h1 : ¬ (i : Int) < (x0.length : Int) := by omega
    rw [R8_4, if_neg (by simpa using h1), drop_end x0 i (by omega), drop_end x1 i (by omega)]
    simp
  | succ k ih =>
    intro i hi
    have h1 : (i : Int) < (x0.length : Int) := by omega
    rw [R8_4, if_pos (by simpa using h1)]
    refine ⟨by omega, h1, by omega, by omega, ?_⟩
    simp only [Int.toNat_natCast]
    rw [drop_get x0 i ByteArray.empty (by omega), drop_get x1 i ByteArray.empty (by omega)]
    by_cases he : x0.getD i ByteArray.empty = x1.getD i ByteArray.empty
    · have hd := (bytes_eq _ _).2 he
      rw [if_neg (by rw [hd]; simp)]
      refine ⟨inR_up hm (by omega), ?_⟩
      have := ih (i + 1) (by omega)
      simp only [he, List.cons.injEq, true_and]
      exact this
    · have hd : (ByteArray.toList (x0.getD i ByteArray.empty) == ByteArray.toList (x1.getD i ByteArray.empty)) = false :=
        (bytes_ne _ _).2 he
      rw [if_pos (by rw [hd]; rfl)]
      simp only [he, List.cons.injEq, false_and, decide_false]

def g8_0 (x0 x1 : List (ByteArray)) : Bool := decide (x0 = x1)
def P8 (x0 x1 : List (ByteArray)) : Prop := True
def S8 : Am.Spec := { sig := sig8, pre := fun ⟨x0, x1, _⟩ => P8 x0 x1, res := fun ⟨x0, x1, _⟩ => [⟨Ty.bool, g8_0 x0 x1⟩] }
theorem con8 : Contract Tryd.prog 8 S8 := contract_of Tryd.func8 hb8 (Nat.le_of_ble_eq_true (by kernel_rfl)) (fun ⟨x0, x1, _⟩ h hwf K q => by
  refine (snd8 (x0.length + 2)).1 x0 x1 _ ?_ K q
  show R8 (x0.length + 1 + 1) x0 x1 [⟨Ty.bool, decide (x0 = x1)⟩]
  rw [R8]
  by_cases hl : x0.length = x1.length
  · rw [if_neg (by simp [hl])]
    have := eq8 x0 x1 hl hwf.1.1 x0.length 0 (by omega)
    simpa using this
  · rw [if_pos (by simp; omega)]
    have : x0 ≠ x1 := fun h => hl (by rw [h])
    simp [this])

end
end Go.Proofs.YtpledggbnnjbiaaDoor

/- Function 24 (laws.eqFare): its runs between cut points. Written by a program of this repo (gen). -/
set_option linter.unusedVariables false
set_option linter.unusedSimpArgs false
set_option maxRecDepth 100000
namespace Go.Proofs.YtpledggbnnjbiaaDoor
open Go Go.Am Go.Proofs
noncomputable section
def ext24 : Ext := []
theorem ext24Ok : ExtOk Tryd.prog ext24 := trivial

noncomputable def b24 : Code := bodyOf Tryd.f24
theorem hb24 : Tryd.f24.body = some b24 := by kernel_rfl
def sig24 : List AT := [AT.v (Ty.cons Ty.str (Ty.cons (Ty.int IntKind.i64) (Ty.cons (Ty.int IntKind.i64) (Ty.cons (Ty.int IntKind.i64) Ty.unit)))), AT.v (Ty.cons Ty.str (Ty.cons (Ty.int IntKind.i64) (Ty.cons (Ty.int IntKind.i64) (Ty.cons (Ty.int IntKind.i64) Ty.unit))))]
def tys24 : List Ty := [Ty.bool]
def kds24 : List RK := []
def oks24 : List AT := owns sig24
def P24 (x0 : ByteArray × Int × Int × Int × Unit) (x1 : ByteArray × Int × Int × Int × Unit) : Prop := True
def g24_0 (x0 : ByteArray × Int × Int × Int × Unit) (x1 : ByteArray × Int × Int × Int × Unit) : Bool := (if (!ByteArray.toList (Prod.fst x0) == ByteArray.toList (Prod.fst x1)) = true then Bool.false else (if (Prod.fst (Prod.snd x0) != Prod.fst (Prod.snd x1)) = true then Bool.false else (if (Prod.fst (Prod.snd (Prod.snd x0)) != Prod.fst (Prod.snd (Prod.snd x1))) = true then Bool.false else (if (Prod.fst (Prod.snd (Prod.snd (Prod.snd x0))) != Prod.fst (Prod.snd (Prod.snd (Prod.snd x1)))) = true then Bool.false else Bool.true))))
theorem p24_0 (x0 : ByteArray × Int × Int × Int × Unit) (x1 : ByteArray × Int × Int × Int × Unit) : runF tab ext24 false 25 [] 2000 [] oks24 kds24 tys24 Tryd.f24.results [true] [.code b24] (entE 0 0 sig24 (x0, x1, ())) (entL sig24 (x0, x1, ())) = some ([Dyn.mk Ty.bool Bool.false], [], [(!ByteArray.toList (Prod.fst x0) == ByteArray.toList (Prod.fst x1)) = Bool.true]) := by kernel_rfl
theorem p24_1 (x0 : ByteArray × Int × Int × Int × Unit) (x1 : ByteArray × Int × Int × Int × Unit) : runF tab ext24 false 25 [] 2000 [] oks24 kds24 tys24 Tryd.f24.results [false, true] [.code b24] (entE 0 0 sig24 (x0, x1, ())) (entL sig24 (x0, x1, ())) = some ([Dyn.mk Ty.bool Bool.false], [], [(!ByteArray.toList (Prod.fst x0) == ByteArray.toList (Prod.fst x1)) = Bool.false, (Prod.fst (Prod.snd x0) != Prod.fst (Prod.snd x1)) = Bool.true]) := by kernel_rfl
theorem p24_2 (x0 : ByteArray × Int × Int × Int × Unit) (x1 : ByteArray × Int × Int × Int × Unit) : runF tab ext24 false 25 [] 2000 [] oks24 kds24 tys24 Tryd.f24.results [false, false, true] [.code b24] (entE 0 0 sig24 (x0, x1, ())) (entL sig24 (x0, x1, ())) = some ([Dyn.mk Ty.bool Bool.false], [], [(!ByteArray.toList (Prod.fst x0) == ByteArray.toList (Prod.fst x1)) = Bool.false, (Prod.fst (Prod.snd x0) != Prod.fst (Prod.snd x1)) = Bool.false, (Prod.fst (Prod.snd (Prod.snd x0)) != Prod.fst (Prod.snd (Prod.snd x1))) = Bool.true]) := by kernel_rfl
theorem p24_3 (x0 : ByteArray × Int × Int × Int × Unit) (x1 : ByteArray × Int × Int × Int × Unit) : runF tab ext24 false 25 [] 2000 [] oks24 kds24 tys24 Tryd.f24.results [false, false, false, true] [.code b24] (entE 0 0 sig24 (x0, x1, ())) (entL sig24 (x0, x1, ())) = some ([Dyn.mk Ty.bool Bool.false], [], [(!ByteArray.toList (Prod.fst x0) == ByteArray.toList (Prod.fst x1)) = Bool.false, (Prod.fst (Prod.snd x0) != Prod.fst (Prod.snd x1)) = Bool.false, (Prod.fst (Prod.snd (Prod.snd x0)) != Prod.fst (Prod.snd (Prod.snd x1))) = Bool.false, (Prod.fst (Prod.snd (Prod.snd (Prod.snd x0))) != Prod.fst (Prod.snd (Prod.snd (Prod.snd x1)))) = Bool.true]) := by kernel_rfl
theorem p24_4 (x0 : ByteArray × Int × Int × Int × Unit) (x1 : ByteArray × Int × Int × Int × Unit) : runF tab ext24 false 25 [] 2000 [] oks24 kds24 tys24 Tryd.f24.results [false, false, false, false] [.code b24] (entE 0 0 sig24 (x0, x1, ())) (entL sig24 (x0, x1, ())) = some ([Dyn.mk Ty.bool Bool.true], [], [(!ByteArray.toList (Prod.fst x0) == ByteArray.toList (Prod.fst x1)) = Bool.false, (Prod.fst (Prod.snd x0) != Prod.fst (Prod.snd x1)) = Bool.false, (Prod.fst (Prod.snd (Prod.snd x0)) != Prod.fst (Prod.snd (Prod.snd x1))) = Bool.false, (Prod.fst (Prod.snd (Prod.snd (Prod.snd x0))) != Prod.fst (Prod.snd (Prod.snd (Prod.snd x1)))) = Bool.false]) := by kernel_rfl
theorem at24 (x0 : ByteArray × Int × Int × Int × Unit) (x1 : ByteArray × Int × Int × Int × Unit) (h : P24 x0 x1) (K : Ctx) (q : Nat → Value) : AtV Tryd.prog 24 (PostR kds24 oks24 [⟨Ty.bool, g24_0 x0 x1⟩] [] [] q K) 25 K q [] [.code b24] (entE 0 0 sig24 (x0, x1, ())) (entL sig24 (x0, x1, ())) := by
  unfold P24 at h
  unfold g24_0
  by_cases b0 : (!ByteArray.toList (Prod.fst x0) == ByteArray.toList (Prod.fst x1)) = true
  · try simp only [if_pos b0] at h ⊢
    exact AtV.fin Tryd.func24 tabOk ext24Ok mixed (p24_0 x0 x1) ⟨b0, trivial⟩
  · try simp only [if_neg b0] at h ⊢
    replace b0 := Bool.eq_false_iff.2 b0
    by_cases b1 : (Prod.fst (Prod.snd x0) != Prod.fst (Prod.snd x1)) = true
    · try simp only [if_pos b1] at h ⊢
      exact AtV.fin Tryd.func24 tabOk ext24Ok mixed (p24_1 x0 x1) ⟨b0, b1, trivial⟩
    · try simp only [if_neg b1] at h ⊢
      replace b1 := Bool.eq_false_iff.2 b1
      by_cases b2 : (Prod.fst (Prod.snd (Prod.snd x0)) != Prod.fst (Prod.snd (Prod.snd x1))) = true
      · try simp only [if_pos b2] at h ⊢
        exact AtV.fin Tryd.func24 tabOk ext24Ok mixed (p24_2 x0 x1) ⟨b0, b1, b2, trivial⟩
      · try simp only [if_neg b2] at h ⊢
        replace b2 := Bool.eq_false_iff.2 b2
        by_cases b3 : (Prod.fst (Prod.snd (Prod.snd (Prod.snd x0))) != Prod.fst (Prod.snd (Prod.snd (Prod.snd x1)))) = true
        · try simp only [if_pos b3] at h ⊢
          exact AtV.fin Tryd.func24 tabOk ext24Ok mixed (p24_3 x0 x1) ⟨b0, b1, b2, b3, trivial⟩
        · try simp only [if_neg b3] at h ⊢
          replace b3 := Bool.eq_false_iff.2 b3
          exact AtV.fin Tryd.func24 tabOk ext24Ok mixed (p24_4 x0 x1) ⟨b0, b1, b2, b3, trivial⟩

def S24 : Am.Spec := { sig := sig24, pre := fun ⟨x0, x1, _⟩ => P24 x0 x1, res := fun ⟨x0, x1, _⟩ => [⟨Ty.bool, g24_0 x0 x1⟩], kds := kds24 }
theorem con24 : Contract Tryd.prog 24 S24 := contract_of Tryd.func24 hb24 (Nat.le_of_ble_eq_true (by kernel_rfl)) (fun ⟨x0, x1, _⟩ h _ K q => at24 x0 x1 h K q)


theorem eqd24 (x y : (ByteArray × Int × Int × Int × Unit)) : g24_0 x y = true ↔ x = y := by
  obtain ⟨a, b, c, d, u⟩ := x
  obtain ⟨a', b', c', d', u'⟩ := y
  unfold g24_0
  simp only [Bool.not_eq_true', bytes_ne, bne_iff_ne, ne_eq, ite_not]
  by_cases h0 : a = a'
  · by_cases h1 : b = b'
    · by_cases h2 : c = c'
      · by_cases h3 : d = d'
        · simp [h0, h1, h2, h3]
        · simp [h0, h1, h2, h3]
      · simp [h0, h1, h2]
    · simp [h0, h1]
  · simp [h0]

end
end Go.Proofs.YtpledggbnnjbiaaDoor

/- Function 9 (laws.eqFareS): its runs between cut points. Written by a program of this repo (gen). -/
set_option linter.unusedVariables false
set_option linter.unusedSimpArgs false
set_option maxRecDepth 100000
namespace Go.Proofs.YtpledggbnnjbiaaDoor
open Go Go.Am Go.Proofs
noncomputable section
def ext9 : Ext := [(24, S24)]
theorem call9_24 : Callable Tryd.prog 24 := ⟨Tryd.f24, Tryd.func24, by kernel_rfl, by kernel_rfl⟩
theorem ext9Ok : ExtOk Tryd.prog ext9 := ⟨⟨call9_24, con24⟩, trivial⟩

noncomputable def b9 : Code := bodyOf Tryd.f9
theorem hb9 : Tryd.f9.body = some b9 := by kernel_rfl
def sig9 : List AT := [AT.v (Ty.sl (Ty.cons Ty.str (Ty.cons (Ty.int IntKind.i64) (Ty.cons (Ty.int IntKind.i64) (Ty.cons (Ty.int IntKind.i64) Ty.unit))))), AT.v (Ty.sl (Ty.cons Ty.str (Ty.cons (Ty.int IntKind.i64) (Ty.cons (Ty.int IntKind.i64) (Ty.cons (Ty.int IntKind.i64) Ty.unit)))))]
def tys9 : List Ty := [Ty.bool]
def kds9 : List RK := []
def oks9 : List AT := owns sig9
def E9_4 (v5 : Int) (x0 : List (ByteArray × Int × Int × Int × Unit)) (x1 : List (ByteArray × Int × Int × Int × Unit)) : Env := [(0, PV.a (Atom.sl (Ty.cons Ty.str (Ty.cons (Ty.int IntKind.i64) (Ty.cons (Ty.int IntKind.i64) (Ty.cons (Ty.int IntKind.i64) Ty.unit)))) x0)), (1, PV.a (Atom.sl (Ty.cons Ty.str (Ty.cons (Ty.int IntKind.i64) (Ty.cons (Ty.int IntKind.i64) (Ty.cons (Ty.int IntKind.i64) Ty.unit)))) x1)), (5, PV.a (Atom.val (Value.int IntKind.i64 v5)))]
def L9_4 (v5 : Int) (x0 : List (ByteArray × Int × Int × Int × Unit)) (x1 : List (ByteArray × Int × Int × Int × Unit)) : Heap := []
mutual
def R9 : Nat → List (ByteArray × Int × Int × Int × Unit) → List (ByteArray × Int × Int × Int × Unit) → List Dyn → Prop
  | 0, _, _, _ => False
  | n + 1, x0, x1, ds => (if ((↑(List.length x0) : Int) != (↑(List.length x1) : Int)) = true then (ds = [Dyn.mk Ty.bool Bool.false]) else (R9_4 n (0) (x0) (x1) ds))
def R9_4 : Nat → Int → List (ByteArray × Int × Int × Int × Unit) → List (ByteArray × Int × Int × Int × Unit) → List Dyn → Prop
  | 0, _, _, _, _ => False
  | n + 1, v5, x0, x1, ds => (if (Decidable.decide (v5 < (↑(List.length x0) : Int))) = true then ((0 ≤ v5) ∧ (v5 < (↑(List.length x0) : Int)) ∧ ((0 ≤ v5) ∧ (v5 < (↑(List.length x1) : Int)) ∧ (if (!g24_0 (List.getD x0 (Int.toNat v5) (ByteArray.empty, 0, 0, 0, ())) (List.getD x1 (Int.toNat v5) (ByteArray.empty, 0, 0, 0, ()))) = true then (ds = [Dyn.mk Ty.bool Bool.false]) else ((InR IntKind.i64 (v5 + 1)) ∧ (R9_4 n (v5 + 1) (x0) (x1) ds))))) else (ds = [Dyn.mk Ty.bool Bool.true]))
end
theorem p9_0 (x0 : List (ByteArray × Int × Int × Int × Unit)) (x1 : List (ByteArray × Int × Int × Int × Unit)) : runF tab ext9 false 27 [] 2000 [] oks9 kds9 tys9 Tryd.f9.results [true] [.code b9] (entE 0 0 sig9 (x0, x1, ())) (entL sig9 (x0, x1, ())) = some ([Dyn.mk Ty.bool Bool.false], [], [((↑(List.length x0) : Int) != (↑(List.length x1) : Int)) = Bool.true]) := by kernel_rfl
theorem p9_1 (x0 : List (ByteArray × Int × Int × Int × Unit)) (x1 : List (ByteArray × Int × Int × Int × Unit)) : Am.runN tab ext9 false 27 [] 2000 [] [] [0, 1, 5] [] [false] [.code b9] (entE 0 0 sig9 (x0, x1, ())) (entL sig9 (x0, x1, ())) = some (cutAt b9 4, E9_4 (0) (x0) (x1), L9_4 (0) (x0) (x1), [((↑(List.length x0) : Int) != (↑(List.length x1) : Int)) = Bool.false]) := by kernel_rfl
theorem p9_2 (v5 : Int) (x0 : List (ByteArray × Int × Int × Int × Unit)) (x1 : List (ByteArray × Int × Int × Int × Unit)) : runF tab ext9 false 27 [] 2000 [] oks9 kds9 tys9 Tryd.f9.results [true, true] (cutAt b9 4) (E9_4 v5 x0 x1) (L9_4 v5 x0 x1) = some ([Dyn.mk Ty.bool Bool.false], [], [Decidable.decide (v5 < (↑(List.length x0) : Int)) = Bool.true, 0 ≤ v5, v5 < (↑(List.length x0) : Int), 0 ≤ v5, v5 < (↑(List.length x1) : Int), True, (!g24_0 (List.getD x0 (Int.toNat v5) (ByteArray.empty, 0, 0, 0, ())) (List.getD x1 (Int.toNat v5) (ByteArray.empty, 0, 0, 0, ()))) = Bool.true]) := by kernel_rfl
theorem p9_3 (v5 : Int) (x0 : List (ByteArray × Int × Int × Int × Unit)) (x1 : List (ByteArray × Int × Int × Int × Unit)) : Am.runN tab ext9 false 27 [] 2000 [] [] [0, 1, 5] [] [true, false] (cutAt b9 4) (E9_4 v5 x0 x1) (L9_4 v5 x0 x1) = some (cutAt b9 4, E9_4 (v5 + 1) (x0) (x1), L9_4 (v5 + 1) (x0) (x1), [Decidable.decide (v5 < (↑(List.length x0) : Int)) = Bool.true, 0 ≤ v5, v5 < (↑(List.length x0) : Int), 0 ≤ v5, v5 < (↑(List.length x1) : Int), True, (!g24_0 (List.getD x0 (Int.toNat v5) (ByteArray.empty, 0, 0, 0, ())) (List.getD x1 (Int.toNat v5) (ByteArray.empty, 0, 0, 0, ()))) = Bool.false, InR IntKind.i64 (v5 + 1)]) := by kernel_rfl
theorem p9_4 (v5 : Int) (x0 : List (ByteArray × Int × Int × Int × Unit)) (x1 : List (ByteArray × Int × Int × Int × Unit)) : runF tab ext9 false 27 [] 2000 [] oks9 kds9 tys9 Tryd.f9.results [false] (cutAt b9 4) (E9_4 v5 x0 x1) (L9_4 v5 x0 x1) = some ([Dyn.mk Ty.bool Bool.true], [], [Decidable.decide (v5 < (↑(List.length x0) : Int)) = Bool.false]) := by kernel_rfl
theorem snd9 : ∀ n, (∀ (x0 : List (ByteArray × Int × Int × Int × Unit)) (x1 : List (ByteArray × Int × Int × Int × Unit)) ds, R9 n x0 x1 ds → ∀ K q, AtV Tryd.prog 9 (PostR kds9 oks9 ds [] [] q K) 27 K q [] [.code b9] (entE 0 0 sig9 (x0, x1, ())) (entL sig9 (x0, x1, ()))) ∧ (∀ (v5 : Int) (x0 : List (ByteArray × Int × Int × Int × Unit)) (x1 : List (ByteArray × Int × Int × Int × Unit)) ds, R9_4 n v5 x0 x1 ds → ∀ K q, AtV Tryd.prog 9 (PostR kds9 oks9 ds [] [] q K) 27 K q [] (cutAt b9 4) (E9_4 v5 x0 x1) (L9_4 v5 x0 x1)) := by
  intro n
  induction n with
  | zero => exact ⟨fun _ _ _ h => by simp only [R9] at h, fun _ _ _ _ h => by simp only [R9_4] at h⟩
  | succ n ih =>
  obtain ⟨ih, ih4⟩ := ih
  refine ⟨?_, ?_⟩
  · intro x0 x1 ds h K q
    rw [R9] at h
    by_cases b0 : ((↑(List.length x0) : Int) != (↑(List.length x1) : Int)) = true
    · rw [if_pos b0] at h
      subst h
      exact AtV.fin Tryd.func9 tabOk ext9Ok mixed (p9_0 x0 x1) ⟨b0, trivial⟩
    · rw [if_neg b0] at h
      replace b0 := Bool.eq_false_iff.2 b0
      exact AtV.runN tabOk ext9Ok mixed (p9_1 x0 x1) ⟨b0, trivial⟩ (ih4 _ _ _ _ h K q)

  · intro v5 x0 x1 ds h K q
    rw [R9_4] at h
    by_cases b0 : (Decidable.decide (v5 < (↑(List.length x0) : Int))) = true
    · rw [if_pos b0] at h
      obtain ⟨s0, s1, h⟩ := h
      obtain ⟨s2, s3, h⟩ := h
      by_cases b1 : (!g24_0 (List.getD x0 (Int.toNat v5) (ByteArray.empty, 0, 0, 0, ())) (List.getD x1 (Int.toNat v5) (ByteArray.empty, 0, 0, 0, ()))) = true
      · rw [if_pos b1] at h
        subst h
        exact AtV.fin Tryd.func9 tabOk ext9Ok mixed (p9_2 v5 x0 x1) ⟨b0, s0, s1, s2, s3, trivial, b1, trivial⟩
      · rw [if_neg b1] at h
        replace b1 := Bool.eq_false_iff.2 b1
        obtain ⟨s4, h⟩ := h
        exact AtV.runN tabOk ext9Ok mixed (p9_3 v5 x0 x1) ⟨b0, s0, s1, s2, s3, trivial, b1, s4, trivial⟩ (ih4 _ _ _ _ h K q)
    · rw [if_neg b0] at h
      replace b0 := Bool.eq_false_iff.2 b0
      subst h
      exact AtV.fin Tryd.func9 tabOk ext9Ok mixed (p9_4 v5 x0 x1) ⟨b0, trivial⟩



theorem eq9 (x0 x1 : List (ByteArray × Int × Int × Int × Unit)) (hl : x0.length = x1.length) (hm : x0.length ≤ maxLen) : ∀ k i : Nat, i + k = x0.length → R9_4 (k + 1) (i : Int) x0 x1 [⟨.bool, decide (x0.drop i = x1.drop i)⟩] := by
  intro k
  induction k with
  | zero =>
    intro i hi
    have h1 : ¬ (i : Int) < (x0.length : Int) := by omega
    rw [R9_4, if_neg (by simpa using h1), drop_end x0 i (by omega), drop_end x1 i (by omega)]
    simp
  | succ k ih =>
    intro i hi
    have h1 : (i : Int) < (x0.length : Int) := by omega
    rw [R9_4, if_pos (by simpa using h1)]
    refine ⟨by omega, h1, by omega, by omega, ?_⟩
    simp only [Int.toNat_natCast]
    rw [drop_get x0 i (ByteArray.empty, (0 : Int), (0 : Int), (0 : Int), ()) (by omega), drop_get x1 i (ByteArray.empty, (0 : Int), (0 : Int), (0 : Int), ()) (by omega)]
    by_cases he : x0.getD i (ByteArray.empty, (0 : Int), (0 : Int), (0 : Int), ()) = x1.getD i (ByteArray.empty, (0 : Int), (0 : Int), (0 : Int), ())
    · have hd := (eqd24 _ _).2 he
      rw [if_neg (by rw [hd]; simp)]
      refine ⟨inR_up hm (by omega), ?_⟩
      have := ih (i + 1) (by omega)
      simp only [he, List.cons.injEq, true_and]
      exact this
    · have hd : g24_0 (x0.getD i (ByteArray.empty, (0 : Int), (0 : Int), (0 : Int), ())) (x1.getD i (ByteArray.empty, (0 : Int), (0 : Int), (0 : Int), ())) = false :=
        Bool.eq_false_iff.2 fun h => he ((eqd24 _ _).1 h)
      rw [if_pos (by rw [hd]; rfl)]
      simp only [he, List.cons.injEq, false_and, decide_false]

def g9_0 (x0 x1 : List (ByteArray × Int × Int × Int × Unit)) : Bool := decide (x0 = x1)
def P9 (x0 x1 : List (ByteArray × Int × Int × Int × Unit)) : Prop := True
def S9 : Am.Spec := { sig := sig9, pre := fun ⟨x0, x1, _⟩ => P9 x0 x1, res := fun ⟨x0, x1, _⟩ => [⟨Ty.bool, g9_0 x0 x1⟩] }
theorem con9 : Contract Tryd.prog 9 S9 := contract_of Tryd.func9 hb9 (Nat.le_of_ble_eq_true (by kernel_rfl)) (fun ⟨x0, x1, _⟩ h hwf K q => by
  refine (snd9 (x0.length + 2)).1 x0 x1 _ ?_ K q
  show R9 (x0.length + 1 + 1) x0 x1 [⟨Ty.bool, decide (x0 = x1)⟩]
  rw [R9]
  by_cases hl : x0.length = x1.length
  · rw [if_neg (by simp [hl])]
    have := eq9 x0 x1 hl hwf.1.1 x0.length 0 (by omega)
    simpa using this
  · rw [if_pos (by simp; omega)]
    have : x0 ≠ x1 := fun h => hl (by rw [h])
    simp [this])

end
end Go.Proofs.YtpledggbnnjbiaaDoor

/- Function 25 (laws.markText): its runs between cut points. Written by a program of this repo (gen). -/
set_option linter.unusedVariables false
set_option linter.unusedSimpArgs false
set_option maxRecDepth 100000
namespace Go.Proofs.YtpledggbnnjbiaaDoor
open Go Go.Am Go.Proofs
noncomputable section
def ext25 : Ext := []
theorem ext25Ok : ExtOk Tryd.prog ext25 := trivial

noncomputable def b25 : Code := bodyOf Tryd.f25
theorem hb25 : Tryd.f25.body = some b25 := by kernel_rfl
def sig25 : List AT := [AT.v (Ty.int IntKind.i64)]
def tys25 : List Ty := [Ty.str]
def kds25 : List RK := []
def oks25 : List AT := owns sig25
def E25_4 (v3 : ByteArray) (x0 : Int) : Env := [(0, PV.a (Atom.val (Value.int IntKind.i64 x0))), (3, PV.a (Atom.val (Value.string v3)))]
def L25_4 (v3 : ByteArray) (x0 : Int) : Heap := []
mutual
def R25 : Nat → Int → List Dyn → Prop
  | 0, _, _ => False
  | n + 1, x0, ds => (if (Decidable.decide (x0 ≤ 0)) = true then (ds = [Dyn.mk Ty.str (ByteArray.mk #[109, 48])]) else (R25_4 n (ByteArray.mk #[]) (x0) ds))
def R25_4 : Nat → ByteArray → Int → List Dyn → Prop
  | 0, _, _, _ => False
  | n + 1, v3, x0, ds => (if (Decidable.decide (x0 > 0)) = true then ((InR IntKind.i64 (Int.tmod x0 10)) ∧ ((InR IntKind.i64 (48 + Int.tmod x0 10)) ∧ ((InR IntKind.u8 (48 + Int.tmod x0 10)) ∧ ((ByteArray.size (bytesStr [48 + Int.tmod x0 10]) + ByteArray.size v3 ≤ 9223372036854775807) ∧ ((InR IntKind.i64 (Int.tdiv x0 10)) ∧ (R25_4 n (bytesStr [48 + Int.tmod x0 10] ++ v3) (Int.tdiv x0 10) ds)))))) else ((1 + ByteArray.size v3 ≤ 9223372036854775807) ∧ (ds = [Dyn.mk Ty.str (ByteArray.mk #[109] ++ v3)])))
end
theorem p25_0 (x0 : Int) : runF tab ext25 false 20 [] 2000 [] oks25 kds25 tys25 Tryd.f25.results [true] [.code b25] (entE 0 0 sig25 (x0, ())) (entL sig25 (x0, ())) = some ([Dyn.mk Ty.str (ByteArray.mk #[109, 48])], [], [Decidable.decide (x0 ≤ 0) = Bool.true]) := by kernel_rfl
theorem p25_1 (x0 : Int) : Am.runN tab ext25 false 20 [] 2000 [] [] [0, 3] [] [false] [.code b25] (entE 0 0 sig25 (x0, ())) (entL sig25 (x0, ())) = some (cutAt b25 4, E25_4 (ByteArray.mk #[]) (x0), L25_4 (ByteArray.mk #[]) (x0), [Decidable.decide (x0 ≤ 0) = Bool.false]) := by kernel_rfl
theorem p25_2 (v3 : ByteArray) (x0 : Int) : Am.runN tab ext25 false 20 [] 2000 [] [] [0, 3] [] [true] (cutAt b25 4) (E25_4 v3 x0) (L25_4 v3 x0) = some (cutAt b25 4, E25_4 (bytesStr [48 + Int.tmod x0 10] ++ v3) (Int.tdiv x0 10), L25_4 (bytesStr [48 + Int.tmod x0 10] ++ v3) (Int.tdiv x0 10), [Decidable.decide (x0 > 0) = Bool.true, (10 : Int) ≠ (0 : Int), InR IntKind.i64 (Int.tmod x0 10), InR IntKind.i64 (48 + Int.tmod x0 10), InR IntKind.u8 (48 + Int.tmod x0 10), ByteArray.size (bytesStr [48 + Int.tmod x0 10]) + ByteArray.size v3 ≤ 9223372036854775807, (10 : Int) ≠ (0 : Int), InR IntKind.i64 (Int.tdiv x0 10)]) := by kernel_rfl
theorem p25_3 (v3 : ByteArray) (x0 : Int) : runF tab ext25 false 20 [] 2000 [] oks25 kds25 tys25 Tryd.f25.results [false] (cutAt b25 4) (E25_4 v3 x0) (L25_4 v3 x0) = some ([Dyn.mk Ty.str (ByteArray.mk #[109] ++ v3)], [], [Decidable.decide (x0 > 0) = Bool.false, 1 + ByteArray.size v3 ≤ 9223372036854775807]) := by kernel_rfl
theorem snd25 : ∀ n, (∀ (x0 : Int) ds, R25 n x0 ds → ∀ K q, AtV Tryd.prog 25 (PostR kds25 oks25 ds [] [] q K) 20 K q [] [.code b25] (entE 0 0 sig25 (x0, ())) (entL sig25 (x0, ()))) ∧ (∀ (v3 : ByteArray) (x0 : Int) ds, R25_4 n v3 x0 ds → ∀ K q, AtV Tryd.prog 25 (PostR kds25 oks25 ds [] [] q K) 20 K q [] (cutAt b25 4) (E25_4 v3 x0) (L25_4 v3 x0)) := by
  intro n
  induction n with
  | zero => exact ⟨fun _ _ h => by simp only [R25] at h, fun _ _ _ h => by simp only [R25_4] at h⟩
  | succ n ih =>
  obtain ⟨ih, ih4⟩ := ih
  refine ⟨?_, ?_⟩
  · intro x0 ds h K q
    rw [R25] at h
    by_cases b0 : (Decidable.decide (x0 ≤ 0)) = true
    · rw [if_pos b0] at h
      subst h
      exact AtV.fin Tryd.func25 tabOk ext25Ok mixed (p25_0 x0) ⟨b0, trivial⟩
    · rw [if_neg b0] at h
      replace b0 := Bool.eq_false_iff.2 b0
      exact AtV.runN tabOk ext25Ok mixed (p25_1 x0) ⟨b0, trivial⟩ (ih4 _ _ _ h K q)

  · intro v3 x0 ds h K q
    rw [R25_4] at h
    by_cases b0 : (Decidable.decide (x0 > 0)) = true
    · rw [if_pos b0] at h
      obtain ⟨s0, h⟩ := h
      obtain ⟨s1, h⟩ := h
      obtain ⟨s2, h⟩ := h
      obtain ⟨s3, h⟩ := h
      obtain ⟨s4, h⟩ := h
      exact AtV.runN tabOk ext25Ok mixed (p25_2 v3 x0) ⟨b0, (by decide), s0, s1, s2, s3, (by decide), s4, trivial⟩ (ih4 _ _ _ h K q)
    · rw [if_neg b0] at h
      replace b0 := Bool.eq_false_iff.2 b0
      obtain ⟨s0, h⟩ := h
      subst h
      exact AtV.fin Tryd.func25 tabOk ext25Ok mixed (p25_3 v3 x0) ⟨b0, s0, trivial⟩



def loop25 : Nat → ByteArray → Int → ByteArray
  | 0, v, _ => v
  | n + 1, v, x => if 0 < x then loop25 n (bytesStr [48 + Int.tmod x 10] ++ v) (Int.tdiv x 10) else v

theorem run25 : ∀ (n : Nat) (v : ByteArray) (x : Int), x < 10 ^ n → InR .i64 x → v.size + n ≤ 1000 → R25_4 (n + 1) v x [⟨.str, ByteArray.mk #[109] ++ loop25 n v x⟩] := by
  intro n
  induction n with
  | zero =>
    intro v x h1 _ h2
    rw [R25_4, if_neg (by simp at h1 ⊢; omega)]
    exact ⟨by omega, rfl⟩
  | succ n ih =>
    intro v x h1 hi h2
    rw [i64_iff] at hi
    rw [R25_4]
    by_cases hx : 0 < x
    · rw [if_pos (by simpa using hx)]
      have e1 : Int.tmod x 10 = x % 10 := Int.tmod_eq_emod_of_nonneg (by omega)
      have e2 : Int.tdiv x 10 = x / 10 := Int.tdiv_eq_ediv_of_nonneg (by omega)
      have hs : (bytesStr [48 + Int.tmod x 10]).size = 1 := bytesStr_size _
      have hp : (10 : Int) ^ (n + 1) = 10 * 10 ^ n := by rw [Int.pow_succ, Int.mul_comm]
      refine ⟨by rw [i64_iff, e1]; omega, by rw [i64_iff, e1]; omega, by rw [u8_iff, e1]; omega, by rw [hs]; omega, by rw [i64_iff, e2]; omega, ?_⟩
      have := ih (bytesStr [48 + Int.tmod x 10] ++ v) (Int.tdiv x 10) (by rw [e2]; omega) (by rw [i64_iff, e2]; omega) (by rw [ByteArray.size_append, hs]; omega)
      simp only [loop25, if_pos hx]
      exact this
    · rw [if_neg (by simp; omega)]
      simp only [loop25, if_neg hx]
      exact ⟨by omega, trivial⟩

def g25_0 (x0 : Int) : ByteArray := if x0 ≤ 0 then ByteArray.mk #[109, 48] else ByteArray.mk #[109] ++ loop25 19 (ByteArray.mk #[]) x0
def P25 (x0 : Int) : Prop := True

theorem top25 (x0 : Int) (hi : InR .i64 x0) : R25 21 x0 [⟨.str, g25_0 x0⟩] := by
  rw [R25]
  unfold g25_0
  by_cases h : x0 ≤ 0
  · rw [if_pos (by simpa using h), if_pos h]
  · rw [if_neg (by simpa using h), if_neg h]
    have hi' := hi
    rw [i64_iff] at hi'
    exact run25 19 _ x0 (by omega) hi (by decide)

def S25 : Am.Spec := { sig := sig25, pre := fun ⟨x0, _⟩ => P25 x0, res := fun ⟨x0, _⟩ => [⟨.str, g25_0 x0⟩] }
theorem con25 : Contract Tryd.prog 25 S25 := contract_of Tryd.func25 hb25 (Nat.le_of_ble_eq_true (by kernel_rfl)) (fun ⟨x0, _⟩ h hwf K q =>
  (snd25 _).1 x0 _ (top25 x0 hwf.1) K q)

end
end Go.Proofs.YtpledggbnnjbiaaDoor

/- Function 10 (laws.markFareS): its runs between cut points. Written by a program of this repo (gen). -/
set_option linter.unusedVariables false
set_option linter.unusedSimpArgs false
set_option maxRecDepth 100000
namespace Go.Proofs.YtpledggbnnjbiaaDoor
open Go Go.Am Go.Proofs
noncomputable section
def ext10 : Ext := [(25, S25)]
theorem call10_25 : Callable Tryd.prog 25 := ⟨Tryd.f25, Tryd.func25, by kernel_rfl, by kernel_rfl⟩
theorem ext10Ok : ExtOk Tryd.prog ext10 := ⟨⟨call10_25, con25⟩, trivial⟩

noncomputable def b10 : Code := bodyOf Tryd.f10
theorem hb10 : Tryd.f10.body = some b10 := by kernel_rfl
def sig10 : List AT := [AT.own (Ty.cons Ty.str (Ty.cons (Ty.int IntKind.i64) (Ty.cons (Ty.int IntKind.i64) (Ty.cons (Ty.int IntKind.i64) Ty.unit)))), AT.v (Ty.int IntKind.i64)]
def tys10 : List Ty := [Ty.int IntKind.i64]
def kds10 : List RK := []
def oks10 : List AT := owns sig10
def E10_2 (v5 : Int) (x1 : Int) (x0 : List (ByteArray × Int × Int × Int × Unit)) : Env := [(0, PV.a (Atom.osl 0 Option.none)), (1, PV.a (Atom.val (Value.int IntKind.i64 x1))), (5, PV.a (Atom.val (Value.int IntKind.i64 v5)))]
def L10_2 (v5 : Int) (x1 : Int) (x0 : List (ByteArray × Int × Int × Int × Unit)) : Heap := [Option.some (Arr.mk (Ty.cons Ty.str (Ty.cons (Ty.int IntKind.i64) (Ty.cons (Ty.int IntKind.i64) (Ty.cons (Ty.int IntKind.i64) Ty.unit)))) x0 Bool.false Option.none Option.none)]
mutual
def R10 : Nat → List (ByteArray × Int × Int × Int × Unit) → Int → List Dyn → List (Option Lst) → Prop
  | 0, _, _, _, _ => False
  | n + 1, x0, x1, ds, us => (R10_2 n (0) (x1) (x0) ds us)
def R10_2 : Nat → Int → Int → List (ByteArray × Int × Int × Int × Unit) → List Dyn → List (Option Lst) → Prop
  | 0, _, _, _, _, _ => False
  | n + 1, v5, x1, x0, ds, us => (if (Decidable.decide (v5 < (↑(List.length x0) : Int))) = true then ((0 ≤ v5) ∧ (v5 < (↑(List.length x0) : Int)) ∧ ((InR IntKind.i64 (x1 + 1)) ∧ ((0 ≤ v5) ∧ (v5 < (↑(List.length (List.set x0 (Int.toNat v5) (g25_0 x1, Prod.snd (List.getD x0 (Int.toNat v5) (ByteArray.empty, 0, 0, 0, ()))))) : Int)) ∧ ((InR IntKind.i64 (x1 + 1 + 1)) ∧ ((0 ≤ v5) ∧ (v5 < (↑(List.length (List.set (List.set x0 (Int.toNat v5) (g25_0 x1, Prod.snd (List.getD x0 (Int.toNat v5) (ByteArray.empty, 0, 0, 0, ())))) (Int.toNat v5) (Prod.fst (List.getD (List.set x0 (Int.toNat v5) (g25_0 x1, Prod.snd (List.getD x0 (Int.toNat v5) (ByteArray.empty, 0, 0, 0, ())))) (Int.toNat v5) (ByteArray.empty, 0, 0, 0, ())), x1 + 1, Prod.snd (Prod.snd (List.getD (List.set x0 (Int.toNat v5) (g25_0 x1, Prod.snd (List.getD x0 (Int.toNat v5) (ByteArray.empty, 0, 0, 0, ())))) (Int.toNat v5) (ByteArray.empty, 0, 0, 0, ())))))) : Int)) ∧ ((InR IntKind.i64 (x1 + 1 + 1 + 1)) ∧ ((0 ≤ v5) ∧ (v5 < (↑(List.length (List.set (List.set (List.set x0 (Int.toNat v5) (g25_0 x1, Prod.snd (List.getD x0 (Int.toNat v5) (ByteArray.empty, 0, 0, 0, ())))) (Int.toNat v5) (Prod.fst (List.getD (List.set x0 (Int.toNat v5) (g25_0 x1, Prod.snd (List.getD x0 (Int.toNat v5) (ByteArray.empty, 0, 0, 0, ())))) (Int.toNat v5) (ByteArray.empty, 0, 0, 0, ())), x1 + 1, Prod.snd (Prod.snd (List.getD (List.set x0 (Int.toNat v5) (g25_0 x1, Prod.snd (List.getD x0 (Int.toNat v5) (ByteArray.empty, 0, 0, 0, ())))) (Int.toNat v5) (ByteArray.empty, 0, 0, 0, ()))))) (Int.toNat v5) (Prod.fst (List.getD (List.set (List.set x0 (Int.toNat v5) (g25_0 x1, Prod.snd (List.getD x0 (Int.toNat v5) (ByteArray.empty, 0, 0, 0, ())))) (Int.toNat v5) (Prod.fst (List.getD (List.set x0 (Int.toNat v5) (g25_0 x1, Prod.snd (List.getD x0 (Int.toNat v5) (ByteArray.empty, 0, 0, 0, ())))) (Int.toNat v5) (ByteArray.empty, 0, 0, 0, ())), x1 + 1, Prod.snd (Prod.snd (List.getD (List.set x0 (Int.toNat v5) (g25_0 x1, Prod.snd (List.getD x0 (Int.toNat v5) (ByteArray.empty, 0, 0, 0, ())))) (Int.toNat v5) (ByteArray.empty, 0, 0, 0, ()))))) (Int.toNat v5) (ByteArray.empty, 0, 0, 0, ())), Prod.fst (Prod.snd (List.getD (List.set (List.set x0 (Int.toNat v5) (g25_0 x1, Prod.snd (List.getD x0 (Int.toNat v5) (ByteArray.empty, 0, 0, 0, ())))) (Int.toNat v5) (Prod.fst (List.getD (List.set x0 (Int.toNat v5) (g25_0 x1, Prod.snd (List.getD x0 (Int.toNat v5) (ByteArray.empty, 0, 0, 0, ())))) (Int.toNat v5) (ByteArray.empty, 0, 0, 0, ())), x1 + 1, Prod.snd (Prod.snd (List.getD (List.set x0 (Int.toNat v5) (g25_0 x1, Prod.snd (List.getD x0 (Int.toNat v5) (ByteArray.empty, 0, 0, 0, ())))) (Int.toNat v5) (ByteArray.empty, 0, 0, 0, ()))))) (Int.toNat v5) (ByteArray.empty, 0, 0, 0, ()))), x1 + 1 + 1, Prod.snd (Prod.snd (Prod.snd (List.getD (List.set (List.set x0 (Int.toNat v5) (g25_0 x1, Prod.snd (List.getD x0 (Int.toNat v5) (ByteArray.empty, 0, 0, 0, ())))) (Int.toNat v5) (Prod.fst (List.getD (List.set x0 (Int.toNat v5) (g25_0 x1, Prod.snd (List.getD x0 (Int.toNat v5) (ByteArray.empty, 0, 0, 0, ())))) (Int.toNat v5) (ByteArray.empty, 0, 0, 0, ())), x1 + 1, Prod.snd (Prod.snd (List.getD (List.set x0 (Int.toNat v5) (g25_0 x1, Prod.snd (List.getD x0 (Int.toNat v5) (ByteArray.empty, 0, 0, 0, ())))) (Int.toNat v5) (ByteArray.empty, 0, 0, 0, ()))))) (Int.toNat v5) (ByteArray.empty, 0, 0, 0, ()))))))) : Int)) ∧ ((InR IntKind.i64 (x1 + 1 + 1 + 1 + 1)) ∧ ((InR IntKind.i64 (v5 + 1)) ∧ (R10_2 n (v5 + 1) (x1 + 1 + 1 + 1 + 1) (List.set (List.set (List.set (List.set x0 (Int.toNat v5) (g25_0 x1, Prod.snd (List.getD x0 (Int.toNat v5) (ByteArray.empty, 0, 0, 0, ())))) (Int.toNat v5) (Prod.fst (List.getD (List.set x0 (Int.toNat v5) (g25_0 x1, Prod.snd (List.getD x0 (Int.toNat v5) (ByteArray.empty, 0, 0, 0, ())))) (Int.toNat v5) (ByteArray.empty, 0, 0, 0, ())), x1 + 1, Prod.snd (Prod.snd (List.getD (List.set x0 (Int.toNat v5) (g25_0 x1, Prod.snd (List.getD x0 (Int.toNat v5) (ByteArray.empty, 0, 0, 0, ())))) (Int.toNat v5) (ByteArray.empty, 0, 0, 0, ()))))) (Int.toNat v5) (Prod.fst (List.getD (List.set (List.set x0 (Int.toNat v5) (g25_0 x1, Prod.snd (List.getD x0 (Int.toNat v5) (ByteArray.empty, 0, 0, 0, ())))) (Int.toNat v5) (Prod.fst (List.getD (List.set x0 (Int.toNat v5) (g25_0 x1, Prod.snd (List.getD x0 (Int.toNat v5) (ByteArray.empty, 0, 0, 0, ())))) (Int.toNat v5) (ByteArray.empty, 0, 0, 0, ())), x1 + 1, Prod.snd (Prod.snd (List.getD (List.set x0 (Int.toNat v5) (g25_0 x1, Prod.snd (List.getD x0 (Int.toNat v5) (ByteArray.empty, 0, 0, 0, ())))) (Int.toNat v5) (ByteArray.empty, 0, 0, 0, ()))))) (Int.toNat v5) (ByteArray.empty, 0, 0, 0, ())), Prod.fst (Prod.snd (List.getD (List.set (List.set x0 (Int.toNat v5) (g25_0 x1, Prod.snd (List.getD x0 (Int.toNat v5) (ByteArray.empty, 0, 0, 0, ())))) (Int.toNat v5) (Prod.fst (List.getD (List.set x0 (Int.toNat v5) (g25_0 x1, Prod.snd (List.getD x0 (Int.toNat v5) (ByteArray.empty, 0, 0, 0, ())))) (Int.toNat v5) (ByteArray.empty, 0, 0, 0, ())), x1 + 1, Prod.snd (Prod.snd (List.getD (List.set x0 (Int.toNat v5) (g25_0 x1, Prod.snd (List.getD x0 (Int.toNat v5) (ByteArray.empty, 0, 0, 0, ())))) (Int.toNat v5) (ByteArray.empty, 0, 0, 0, ()))))) (Int.toNat v5) (ByteArray.empty, 0, 0, 0, ()))), x1 + 1 + 1, Prod.snd (Prod.snd (Prod.snd (List.getD (List.set (List.set x0 (Int.toNat v5) (g25_0 x1, Prod.snd (List.getD x0 (Int.toNat v5) (ByteArray.empty, 0, 0, 0, ())))) (Int.toNat v5) (Prod.fst (List.getD (List.set x0 (Int.toNat v5) (g25_0 x1, Prod.snd (List.getD x0 (Int.toNat v5) (ByteArray.empty, 0, 0, 0, ())))) (Int.toNat v5) (ByteArray.empty, 0, 0, 0, ())), x1 + 1, Prod.snd (Prod.snd (List.getD (List.set x0 (Int.toNat v5) (g25_0 x1, Prod.snd (List.getD x0 (Int.toNat v5) (ByteArray.empty, 0, 0, 0, ())))) (Int.toNat v5) (ByteArray.empty, 0, 0, 0, ()))))) (Int.toNat v5) (ByteArray.empty, 0, 0, 0, ())))))) (Int.toNat v5) (Prod.fst (List.getD (List.set (List.set (List.set x0 (Int.toNat v5) (g25_0 x1, Prod.snd (List.getD x0 (Int.toNat v5) (ByteArray.empty, 0, 0, 0, ())))) (Int.toNat v5) (Prod.fst (List.getD (List.set x0 (Int.toNat v5) (g25_0 x1, Prod.snd (List.getD x0 (Int.toNat v5) (ByteArray.empty, 0, 0, 0, ())))) (Int.toNat v5) (ByteArray.empty, 0, 0, 0, ())), x1 + 1, Prod.snd (Prod.snd (List.getD (List.set x0 (Int.toNat v5) (g25_0 x1, Prod.snd (List.getD x0 (Int.toNat v5) (ByteArray.empty, 0, 0, 0, ())))) (Int.toNat v5) (ByteArray.empty, 0, 0, 0, ()))))) (Int.toNat v5) (Prod.fst (List.getD (List.set (List.set x0 (Int.toNat v5) (g25_0 x1, Prod.snd (List.getD x0 (Int.toNat v5) (ByteArray.empty, 0, 0, 0, ())))) (Int.toNat v5) (Prod.fst (List.getD (List.set x0 (Int.toNat v5) (g25_0 x1, Prod.snd (List.getD x0 (Int.toNat v5) (ByteArray.empty, 0, 0, 0, ())))) (Int.toNat v5) (ByteArray.empty, 0, 0, 0, ())), x1 + 1, Prod.snd (Prod.snd (List.getD (List.set x0 (Int.toNat v5) (g25_0 x1, Prod.snd (List.getD x0 (Int.toNat v5) (ByteArray.empty, 0, 0, 0, ())))) (Int.toNat v5) (ByteArray.empty, 0, 0, 0, ()))))) (Int.toNat v5) (ByteArray.empty, 0, 0, 0, ())), Prod.fst (Prod.snd (List.getD (List.set (List.set x0 (Int.toNat v5) (g25_0 x1, Prod.snd (List.getD x0 (Int.toNat v5) (ByteArray.empty, 0, 0, 0, ())))) (Int.toNat v5) (Prod.fst (List.getD (List.set x0 (Int.toNat v5) (g25_0 x1, Prod.snd (List.getD x0 (Int.toNat v5) (ByteArray.empty, 0, 0, 0, ())))) (Int.toNat v5) (ByteArray.empty, 0, 0, 0, ())), x1 + 1, Prod.snd (Prod.snd (List.getD (List.set x0 (Int.toNat v5) (g25_0 x1, Prod.snd (List.getD x0 (Int.toNat v5) (ByteArray.empty, 0, 0, 0, ())))) (Int.toNat v5) (ByteArray.empty, 0, 0, 0, ()))))) (Int.toNat v5) (ByteArray.empty, 0, 0, 0, ()))), x1 + 1 + 1, Prod.snd (Prod.snd (Prod.snd (List.getD (List.set (List.set x0 (Int.toNat v5) (g25_0 x1, Prod.snd (List.getD x0 (Int.toNat v5) (ByteArray.empty, 0, 0, 0, ())))) (Int.toNat v5) (Prod.fst (List.getD (List.set x0 (Int.toNat v5) (g25_0 x1, Prod.snd (List.getD x0 (Int.toNat v5) (ByteArray.empty, 0, 0, 0, ())))) (Int.toNat v5) (ByteArray.empty, 0, 0, 0, ())), x1 + 1, Prod.snd (Prod.snd (List.getD (List.set x0 (Int.toNat v5) (g25_0 x1, Prod.snd (List.getD x0 (Int.toNat v5) (ByteArray.empty, 0, 0, 0, ())))) (Int.toNat v5) (ByteArray.empty, 0, 0, 0, ()))))) (Int.toNat v5) (ByteArray.empty, 0, 0, 0, ())))))) (Int.toNat v5) (ByteArray.empty, 0, 0, 0, ())), Prod.fst (Prod.snd (List.getD (List.set (List.set (List.set x0 (Int.toNat v5) (g25_0 x1, Prod.snd (List.getD x0 (Int.toNat v5) (ByteArray.empty, 0, 0, 0, ())))) (Int.toNat v5) (Prod.fst (List.getD (List.set x0 (Int.toNat v5) (g25_0 x1, Prod.snd (List.getD x0 (Int.toNat v5) (ByteArray.empty, 0, 0, 0, ())))) (Int.toNat v5) (ByteArray.empty, 0, 0, 0, ())), x1 + 1, Prod.snd (Prod.snd (List.getD (List.set x0 (Int.toNat v5) (g25_0 x1, Prod.snd (List.getD x0 (Int.toNat v5) (ByteArray.empty, 0, 0, 0, ())))) (Int.toNat v5) (ByteArray.empty, 0, 0, 0, ()))))) (Int.toNat v5) (Prod.fst (List.getD (List.set (List.set x0 (Int.toNat v5) (g25_0 x1, Prod.snd (List.getD x0 (Int.toNat v5) (ByteArray.empty, 0, 0, 0, ())))) (Int.toNat v5) (Prod.fst (List.getD (List.set x0 (Int.toNat v5) (g25_0 x1, Prod.snd (List.getD x0 (Int.toNat v5) (ByteArray.empty, 0, 0, 0, ())))) (Int.toNat v5) (ByteArray.empty, 0, 0, 0, ())), x1 + 1, Prod.snd (Prod.snd (List.getD (List.set x0 (Int.toNat v5) (g25_0 x1, Prod.snd (List.getD x0 (Int.toNat v5) (ByteArray.empty, 0, 0, 0, ())))) (Int.toNat v5) (ByteArray.empty, 0, 0, 0, ()))))) (Int.toNat v5) (ByteArray.empty, 0, 0, 0, ())), Prod.fst (Prod.snd (List.getD (List.set (List.set x0 (Int.toNat v5) (g25_0 x1, Prod.snd (List.getD x0 (Int.toNat v5) (ByteArray.empty, 0, 0, 0, ())))) (Int.toNat v5) (Prod.fst (List.getD (List.set x0 (Int.toNat v5) (g25_0 x1, Prod.snd (List.getD x0 (Int.toNat v5) (ByteArray.empty, 0, 0, 0, ())))) (Int.toNat v5) (ByteArray.empty, 0, 0, 0, ())), x1 + 1, Prod.snd (Prod.snd (List.getD (List.set x0 (Int.toNat v5) (g25_0 x1, Prod.snd (List.getD x0 (Int.toNat v5) (ByteArray.empty, 0, 0, 0, ())))) (Int.toNat v5) (ByteArray.empty, 0, 0, 0, ()))))) (Int.toNat v5) (ByteArray.empty, 0, 0, 0, ()))), x1 + 1 + 1, Prod.snd (Prod.snd (Prod.snd (List.getD (List.set (List.set x0 (Int.toNat v5) (g25_0 x1, Prod.snd (List.getD x0 (Int.toNat v5) (ByteArray.empty, 0, 0, 0, ())))) (Int.toNat v5) (Prod.fst (List.getD (List.set x0 (Int.toNat v5) (g25_0 x1, Prod.snd (List.getD x0 (Int.toNat v5) (ByteArray.empty, 0, 0, 0, ())))) (Int.toNat v5) (ByteArray.empty, 0, 0, 0, ())), x1 + 1, Prod.snd (Prod.snd (List.getD (List.set x0 (Int.toNat v5) (g25_0 x1, Prod.snd (List.getD x0 (Int.toNat v5) (ByteArray.empty, 0, 0, 0, ())))) (Int.toNat v5) (ByteArray.empty, 0, 0, 0, ()))))) (Int.toNat v5) (ByteArray.empty, 0, 0, 0, ())))))) (Int.toNat v5) (ByteArray.empty, 0, 0, 0, ()))), Prod.fst (Prod.snd (Prod.snd (List.getD (List.set (List.set (List.set x0 (Int.toNat v5) (g25_0 x1, Prod.snd (List.getD x0 (Int.toNat v5) (ByteArray.empty, 0, 0, 0, ())))) (Int.toNat v5) (Prod.fst (List.getD (List.set x0 (Int.toNat v5) (g25_0 x1, Prod.snd (List.getD x0 (Int.toNat v5) (ByteArray.empty, 0, 0, 0, ())))) (Int.toNat v5) (ByteArray.empty, 0, 0, 0, ())), x1 + 1, Prod.snd (Prod.snd (List.getD (List.set x0 (Int.toNat v5) (g25_0 x1, Prod.snd (List.getD x0 (Int.toNat v5) (ByteArray.empty, 0, 0, 0, ())))) (Int.toNat v5) (ByteArray.empty, 0, 0, 0, ()))))) (Int.toNat v5) (Prod.fst (List.getD (List.set (List.set x0 (Int.toNat v5) (g25_0 x1, Prod.snd (List.getD x0 (Int.toNat v5) (ByteArray.empty, 0, 0, 0, ())))) (Int.toNat v5) (Prod.fst (List.getD (List.set x0 (Int.toNat v5) (g25_0 x1, Prod.snd (List.getD x0 (Int.toNat v5) (ByteArray.empty, 0, 0, 0, ())))) (Int.toNat v5) (ByteArray.empty, 0, 0, 0, ())), x1 + 1, Prod.snd (Prod.snd (List.getD (List.set x0 (Int.toNat v5) (g25_0 x1, Prod.snd (List.getD x0 (Int.toNat v5) (ByteArray.empty, 0, 0, 0, ())))) (Int.toNat v5) (ByteArray.empty, 0, 0, 0, ()))))) (Int.toNat v5) (ByteArray.empty, 0, 0, 0, ())), Prod.fst (Prod.snd (List.getD (List.set (List.set x0 (Int.toNat v5) (g25_0 x1, Prod.snd (List.getD x0 (Int.toNat v5) (ByteArray.empty, 0, 0, 0, ())))) (Int.toNat v5) (Prod.fst (List.getD (List.set x0 (Int.toNat v5) (g25_0 x1, Prod.snd (List.getD x0 (Int.toNat v5) (ByteArray.empty, 0, 0, 0, ())))) (Int.toNat v5) (ByteArray.empty, 0, 0, 0, ())), x1 + 1, Prod.snd (Prod.snd (List.getD (List.set x0 (Int.toNat v5) (g25_0 x1, Prod.snd (List.getD x0 (Int.toNat v5) (ByteArray.empty, 0, 0, 0, ())))) (Int.toNat v5) (ByteArray.empty, 0, 0, 0, ()))))) (Int.toNat v5) (ByteArray.empty, 0, 0, 0, ()))), x1 + 1 + 1, Prod.snd (Prod.snd (Prod.snd (List.getD (List.set (List.set x0 (Int.toNat v5) (g25_0 x1, Prod.snd (List.getD x0 (Int.toNat v5) (ByteArray.empty, 0, 0, 0, ())))) (Int.toNat v5) (Prod.fst (List.getD (List.set x0 (Int.toNat v5) (g25_0 x1, Prod.snd (List.getD x0 (Int.toNat v5) (ByteArray.empty, 0, 0, 0, ())))) (Int.toNat v5) (ByteArray.empty, 0, 0, 0, ())), x1 + 1, Prod.snd (Prod.snd (List.getD (List.set x0 (Int.toNat v5) (g25_0 x1, Prod.snd (List.getD x0 (Int.toNat v5) (ByteArray.empty, 0, 0, 0, ())))) (Int.toNat v5) (ByteArray.empty, 0, 0, 0, ()))))) (Int.toNat v5) (ByteArray.empty, 0, 0, 0, ())))))) (Int.toNat v5) (ByteArray.empty, 0, 0, 0, ())))), x1 + 1 + 1 + 1, Prod.snd (Prod.snd (Prod.snd (Prod.snd (List.getD (List.set (List.set (List.set x0 (Int.toNat v5) (g25_0 x1, Prod.snd (List.getD x0 (Int.toNat v5) (ByteArray.empty, 0, 0, 0, ())))) (Int.toNat v5) (Prod.fst (List.getD (List.set x0 (Int.toNat v5) (g25_0 x1, Prod.snd (List.getD x0 (Int.toNat v5) (ByteArray.empty, 0, 0, 0, ())))) (Int.toNat v5) (ByteArray.empty, 0, 0, 0, ())), x1 + 1, Prod.snd (Prod.snd (List.getD (List.set x0 (Int.toNat v5) (g25_0 x1, Prod.snd (List.getD x0 (Int.toNat v5) (ByteArray.empty, 0, 0, 0, ())))) (Int.toNat v5) (ByteArray.empty, 0, 0, 0, ()))))) (Int.toNat v5) (Prod.fst (List.getD (List.set (List.set x0 (Int.toNat v5) (g25_0 x1, Prod.snd (List.getD x0 (Int.toNat v5) (ByteArray.empty, 0, 0, 0, ())))) (Int.toNat v5) (Prod.fst (List.getD (List.set x0 (Int.toNat v5) (g25_0 x1, Prod.snd (List.getD x0 (Int.toNat v5) (ByteArray.empty, 0, 0, 0, ())))) (Int.toNat v5) (ByteArray.empty, 0, 0, 0, ())), x1 + 1, Prod.snd (Prod.snd (List.getD (List.set x0 (Int.toNat v5) (g25_0 x1, Prod.snd (List.getD x0 (Int.toNat v5) (ByteArray.empty, 0, 0, 0, ())))) (Int.toNat v5) (ByteArray.empty, 0, 0, 0, ()))))) (Int.toNat v5) (ByteArray.empty, 0, 0, 0, ())), Prod.fst (Prod.snd (List.getD (List.set (List.set x0 (Int.toNat v5) (g25_0 x1, Prod.snd (List.getD x0 (Int.toNat v5) (ByteArray.empty, 0, 0, 0, ())))) (Int.toNat v5) (Prod.fst (List.getD (List.set x0 (Int.toNat v5) (g25_0 x1, Prod.snd (List.getD x0 (Int.toNat v5) (ByteArray.empty, 0, 0, 0, ())))) (Int.toNat v5) (ByteArray.empty, 0, 0, 0, ())), x1 + 1, Prod.snd (Prod.snd (List.getD (List.set x0 (Int.toNat v5) (g25_0 x1, Prod.snd (List.getD x0 (Int.toNat v5) (ByteArray.empty, 0, 0, 0, ())))) (Int.toNat v5) (ByteArray.empty, 0, 0, 0, ()))))) (Int.toNat v5) (ByteArray.empty, 0, 0, 0, ()))), x1 + 1 + 1, Prod.snd (Prod.snd (Prod.snd (List.getD (List.set (List.set x0 (Int.toNat v5) (g25_0 x1, Prod.snd (List.getD x0 (Int.toNat v5) (ByteArray.empty, 0, 0, 0, ())))) (Int.toNat v5) (Prod.fst (List.getD (List.set x0 (Int.toNat v5) (g25_0 x1, Prod.snd (List.getD x0 (Int.toNat v5) (ByteArray.empty, 0, 0, 0, ())))) (Int.toNat v5) (ByteArray.empty, 0, 0, 0, ())), x1 + 1, Prod.snd (Prod.snd (List.getD (List.set x0 (Int.toNat v5) (g25_0 x1, Prod.snd (List.getD x0 (Int.toNat v5) (ByteArray.empty, 0, 0, 0, ())))) (Int.toNat v5) (ByteArray.empty, 0, 0, 0, ()))))) (Int.toNat v5) (ByteArray.empty, 0, 0, 0, ())))))) (Int.toNat v5) (ByteArray.empty, 0, 0, 0, ()))))))) ds us)))))))))) else (ds = [Dyn.mk (Ty.int IntKind.i64) x1] ∧ us = [Option.some (Lst.mk (Ty.cons Ty.str (Ty.cons (Ty.int IntKind.i64) (Ty.cons (Ty.int IntKind.i64) (Ty.cons (Ty.int IntKind.i64) Ty.unit)))) x0)]))
end
theorem p10_0 (x0 : List (ByteArray × Int × Int × Int × Unit)) (x1 : Int) : Am.runN tab ext10 false 42 [] 2000 [0] [] [0, 1, 5] [0] [] [.code b10] (entE 0 0 sig10 (x0, x1, ())) (entL sig10 (x0, x1, ())) = some (cutAt b10 2, E10_2 (0) (x1) (x0), L10_2 (0) (x1) (x0), []) := by kernel_rfl
theorem p10_1 (v5 : Int) (x1 : Int) (x0 : List (ByteArray × Int × Int × Int × Unit)) : Am.runN tab ext10 false 42 [] 2000 [0] [] [0, 1, 5] [0] [true] (cutAt b10 2) (E10_2 v5 x1 x0) (L10_2 v5 x1 x0) = some (cutAt b10 2, E10_2 (v5 + 1) (x1 + 1 + 1 + 1 + 1) (List.set (List.set (List.set (List.set x0 (Int.toNat v5) (g25_0 x1, Prod.snd (List.getD x0 (Int.toNat v5) (ByteArray.empty, 0, 0, 0, ())))) (Int.toNat v5) (Prod.fst (List.getD (List.set x0 (Int.toNat v5) (g25_0 x1, Prod.snd (List.getD x0 (Int.toNat v5) (ByteArray.empty, 0, 0, 0, ())))) (Int.toNat v5) (ByteArray.empty, 0, 0, 0, ())), x1 + 1, Prod.snd (Prod.snd (List.getD (List.set x0 (Int.toNat v5) (g25_0 x1, Prod.snd (List.getD x0 (Int.toNat v5) (ByteArray.empty, 0, 0, 0, ())))) (Int.toNat v5) (ByteArray.empty, 0, 0, 0, ()))))) (Int.toNat v5) (Prod.fst (List.getD (List.set (List.set x0 (Int.toNat v5) (g25_0 x1, Prod.snd (List.getD x0 (Int.toNat v5) (ByteArray.empty, 0, 0, 0, ())))) (Int.toNat v5) (Prod.fst (List.getD (List.set x0 (Int.toNat v5) (g25_0 x1, Prod.snd (List.getD x0 (Int.toNat v5) (ByteArray.empty, 0, 0, 0, ())))) (Int.toNat v5) (ByteArray.empty, 0, 0, 0, ())), x1 + 1, Prod.snd (Prod.snd (List.getD (List.set x0 (Int.toNat v5) (g25_0 x1, Prod.snd (List.getD x0 (Int.toNat v5) (ByteArray.empty, 0, 0, 0, ())))) (Int.toNat v5) (ByteArray.empty, 0, 0, 0, ()))))) (Int.toNat v5) (ByteArray.empty, 0, 0, 0, ())), Prod.fst (Prod.snd (List.getD (List.set (List.set x0 (Int.toNat v5) (g25_0 x1, Prod.snd (List.getD x0 (Int.toNat v5) (ByteArray.empty, 0, 0, 0, ())))) (Int.toNat v5) (Prod.fst (List.getD (List.set x0 (Int.toNat v5) (g25_0 x1, Prod.snd (List.getD x0 (Int.toNat v5) (ByteArray.empty, 0, 0, 0, ())))) (Int.toNat v5) (ByteArray.empty, 0, 0, 0, ())), x1 + 1, Prod.snd (Prod.snd (List.getD (List.set x0 (Int.toNat v5) (g25_0 x1, Prod.snd (List.getD x0 (Int.toNat v5) (ByteArray.empty, 0, 0, 0, ())))) (Int.toNat v5) (ByteArray.empty, 0, 0, 0, ()))))) (Int.toNat v5) (ByteArray.empty, 0, 0, 0, ()))), x1 + 1 + 1, Prod.snd (Prod.snd (Prod.snd (List.getD (List.set (List.set x0 (Int.toNat v5) (g25_0 x1, Prod.snd (List.getD x0 (Int.toNat v5) (ByteArray.empty, 0, 0, 0, ())))) (Int.toNat v5) (Prod.fst (List.getD (List.set x0 (Int.toNat v5) (g25_0 x1, Prod.snd (List.getD x0 (Int.toNat v5) (ByteArray.empty, 0, 0, 0, ())))) (Int.toNat v5) (ByteArray.empty, 0, 0, 0, ())), x1 + 1, Prod.snd (Prod.snd (List.getD (List.set x0 (Int.toNat v5) (g25_0 x1, Prod.snd (List.getD x0 (Int.toNat v5) (ByteArray.empty, 0, 0, 0, ())))) (Int.toNat v5) (ByteArray.empty, 0, 0, 0, ()))))) (Int.toNat v5) (ByteArray.empty, 0, 0, 0, ())))))) (Int.toNat v5) (Prod.fst (List.getD (List.set (List.set (List.set x0 (Int.toNat v5) (g25_0 x1, Prod.snd (List.getD x0 (Int.toNat v5) (ByteArray.empty, 0, 0, 0, ())))) (Int.toNat v5) (Prod.fst (List.getD (List.set x0 (Int.toNat v5) (g25_0 x1, Prod.snd (List.getD x0 (Int.toNat v5) (ByteArray.empty, 0, 0, 0, ())))) (Int.toNat v5) (ByteArray.empty, 0, 0, 0, ())), x1 + 1, Prod.snd (Prod.snd (List.getD (List.set x0 (Int.toNat v5) (g25_0 x1, Prod.snd (List.getD x0 (Int.toNat v5) (ByteArray.empty, 0, 0, 0, ())))) (Int.toNat v5) (ByteArray.empty, 0, 0, 0, ()))))) (Int.toNat v5) (Prod.fst (List.getD (List.set (List.set x0 (Int.toNat v5) (g25_0 x1, Prod.snd (List.getD x0 (Int.toNat v5) (ByteArray.empty, 0, 0, 0, ())))) (Int.toNat v5) (Prod.fst (List.getD (List.set x0 (Int.toNat v5) (g25_0 x1, Prod.snd (List.getD x0 (Int.toNat v5) (ByteArray.empty, 0, 0, 0, ())))) (Int.toNat v5) (ByteArray.empty, 0, 0, 0, ())), x1 + 1, Prod.snd (Prod.snd (List.getD (List.set x0 (Int.toNat v5) (g25_0 x1, Prod.snd (List.getD x0 (Int.toNat v5) (ByteArray.empty, 0, 0, 0, ())))) (Int.toNat v5) (ByteArray.empty, 0, 0, 0, ()))))) (Int.toNat v5) (ByteArray.empty, 0, 0, 0, ())), Prod.fst (Prod.snd (List.getD (List.set (List.set x0 (Int.toNat v5) (g25_0 x1, Prod.snd (List.getD x0 (Int.toNat v5) (ByteArray.empty, 0, 0, 0, ())))) (Int.toNat v5) (Prod.fst (List.getD (List.set x0 (Int.toNat v5) (g25_0 x1, Prod.snd (List.getD x0 (Int.toNat v5) (ByteArray.empty, 0, 0, 0, ())))) (Int.toNat v5) (ByteArray.empty, 0, 0, 0, ())), x1 + 1, Prod.snd (Prod.snd (List.getD (List.set x0 (Int.toNat v5) (g25_0 x1, Prod.snd (List.getD x0 (Int.toNat v5) (ByteArray.empty, 0, 0, 0, ())))) (Int.toNat v5) (ByteArray.empty, 0, 0, 0, ()))))) (Int.toNat v5) (ByteArray.empty, 0, 0, 0, ()))), x1 + 1 + 1, Prod.snd (Prod.snd (Prod.snd (List.getD (List.set (List.set x0 (Int.toNat v5) (g25_0 x1, Prod.snd (List.getD x0 (Int.toNat v5) (ByteArray.empty, 0, 0, 0, ())))) (Int.toNat v5) (Prod.fst (List.getD (List.set x0 (Int.toNat v5) (g25_0 x1, Prod.snd (List.getD x0 (Int.toNat v5) (ByteArray.empty, 0, 0, 0, ())))) (Int.toNat v5) (ByteArray.empty, 0, 0, 0, ())), x1 + 1, Prod.snd (Prod.snd (List.getD (List.set x0 (Int.toNat v5) (g25_0 x1, Prod.snd (List.getD x0 (Int.toNat v5) (ByteArray.empty, 0, 0, 0, ())))) (Int.toNat v5) (ByteArray.empty, 0, 0, 0, ()))))) (Int.toNat v5) (ByteArray.empty, 0, 0, 0, ())))))) (Int.toNat v5) (ByteArray.empty, 0, 0, 0, ())), Prod.fst (Prod.snd (List.getD (List.set (List.set (List.set x0 (Int.toNat v5) (g25_0 x1, Prod.snd (List.getD x0 (Int.toNat v5) (ByteArray.empty, 0, 0, 0, ())))) (Int.toNat v5) (Prod.fst (List.getD (List.set x0 (Int.toNat v5) (g25_0 x1, Prod.snd (List.getD x0 (Int.toNat v5) (ByteArray.empty, 0, 0, 0, ())))) (Int.toNat v5) (ByteArray.empty, 0, 0, 0, ())), x1 + 1, Prod.snd (Prod.snd (List.getD (List.set x0 (Int.toNat v5) (g25_0 x1, Prod.snd (List.getD x0 (Int.toNat v5) (ByteArray.empty, 0, 0, 0, ())))) (Int.toNat v5) (ByteArray.empty, 0, 0, 0, ()))))) (Int.toNat v5) (Prod.fst (List.getD (List.set (List.set x0 (Int.toNat v5) (g25_0 x1, Prod.snd (List.getD x0 (Int.toNat v5) (ByteArray.empty, 0, 0, 0, ())))) (Int.toNat v5) (Prod.fst (List.getD (List.set x0 (Int.toNat v5) (g25_0 x1, Prod.snd (List.getD x0 (Int.toNat v5) (ByteArray.empty, 0, 0, 0, ())))) (Int.toNat v5) (ByteArray.empty, 0, 0, 0, ())), x1 + 1, Prod.snd (Prod.snd (List.getD (List.set x0 (Int.toNat v5) (g25_0 x1, Prod.snd (List.getD x0 (Int.toNat v5) (ByteArray.empty, 0, 0, 0, ())))) (Int.toNat v5) (ByteArray.empty, 0, 0, 0, ()))))) (Int.toNat v5) (ByteArray.empty, 0, 0, 0, ())), Prod.fst (Prod.snd (List.getD (List.set (List.set x0 (Int.toNat v5) (g25_0 x1, Prod.snd (List.getD x0 (Int.toNat v5) (ByteArray.empty, 0, 0, 0, ())))) (Int.toNat v5) (Prod.fst (List.getD (List.set x0 (Int.toNat v5) (g25_0 x1, Prod.snd (List.getD x0 (Int.toNat v5) (ByteArray.empty, 0, 0, 0, ())))) (Int.toNat v5) (ByteArray.empty, 0, 0, 0, ())), x1 + 1, Prod.snd (Prod.snd (List.getD (List.set x0 (Int.toNat v5) (g25_0 x1, Prod.snd (List.getD x0 (Int.toNat v5) (ByteArray.empty, 0, 0, 0, ())))) (Int.toNat v5) (ByteArray.empty, 0, 0, 0, ()))))) (Int.toNat v5) (ByteArray.empty, 0, 0, 0, ()))), x1 + 1 + 1, Prod.snd (Prod.snd (Prod.snd (List.getD (List.set (List.set x0 (Int.toNat v5) (g25_0 x1, Prod.snd (List.getD x0 (Int.toNat v5) (ByteArray.empty, 0, 0, 0, ())))) (Int.toNat v5) (Prod.fst (List.getD (List.set x0 (Int.toNat v5) (g25_0 x1, Prod.snd (List.getD x0 (Int.toNat v5) (ByteArray.empty, 0, 0, 0, ())))) (Int.toNat v5) (ByteArray.empty, 0, 0, 0, ())), x1 + 1, Prod.snd (Prod.snd (List.getD (List.set x0 (Int.toNat v5) (g25_0 x1, Prod.snd (List.getD x0 (Int.toNat v5) (ByteArray.empty, 0, 0, 0, ())))) (Int.toNat v5) (ByteArray.empty, 0, 0, 0, ()))))) (Int.toNat v5) (ByteArray.empty, 0, 0, 0, ())))))) (Int.toNat v5) (ByteArray.empty, 0, 0, 0, ()))), Prod.fst (Prod.snd (Prod.snd (List.getD (List.set (List.set (List.set x0 (Int.toNat v5) (g25_0 x1, Prod.snd (List.getD x0 (Int.toNat v5) (ByteArray.empty, 0, 0, 0, ())))) (Int.toNat v5) (Prod.fst (List.getD (List.set x0 (Int.toNat v5) (g25_0 x1, Prod.snd (List.getD x0 (Int.toNat v5) (ByteArray.empty, 0, 0, 0, ())))) (Int.toNat v5) (ByteArray.empty, 0, 0, 0, ())), x1 + 1, Prod.snd (Prod.snd (List.getD (List.set x0 (Int.toNat v5) (g25_0 x1, Prod.snd (List.getD x0 (Int.toNat v5) (ByteArray.empty, 0, 0, 0, ())))) (Int.toNat v5) (ByteArray.empty, 0, 0, 0, ()))))) (Int.toNat v5) (Prod.fst (List.getD (List.set (List.set x0 (Int.toNat v5) (g25_0 x1, Prod.snd (List.getD x0 (Int.toNat v5) (ByteArray.empty, 0, 0, 0, ())))) (Int.toNat v5) (Prod.fst (List.getD (List.set x0 (Int.toNat v5) (g25_0 x1, Prod.snd (List.getD x0 (Int.toNat v5) (ByteArray.empty, 0, 0, 0, ())))) (Int.toNat v5) (ByteArray.empty, 0, 0, 0, ())), x1 + 1, Prod.snd (Prod.snd (List.getD (List.set x0 (Int.toNat v5) (g25_0 x1, Prod.snd (List.getD x0 (Int.toNat v5) (ByteArray.empty, 0, 0, 0, ())))) (Int.toNat v5) (ByteArray.empty, 0, 0, 0, ()))))) (Int.toNat v5) (ByteArray.empty, 0, 0, 0, ())), Prod.fst (Prod.snd (List.getD (List.set (List.set x0 (Int.toNat v5) (g25_0 x1, Prod.snd (List.getD x0 (Int.toNat v5) (ByteArray.empty, 0, 0, 0, ())))) (Int.toNat v5) (Prod.fst (List.getD (List.set x0 (Int.toNat v5) (g25_0 x1, Prod.snd (List.getD x0 (Int.toNat v5) (ByteArray.empty, 0, 0, 0, ())))) (Int.toNat v5) (ByteArray.empty, 0, 0, 0, ())), x1 + 1, Prod.snd (Prod.snd (List.getD (List.set x0 (Int.toNat v5) (g25_0 x1, Prod.snd (List.getD x0 (Int.toNat v5) (ByteArray.empty, 0, 0, 0, ())))) (Int.toNat v5) (ByteArray.empty, 0, 0, 0, ()))))) (Int.toNat v5) (ByteArray.empty, 0, 0, 0, ()))), x1 + 1 + 1, Prod.snd (Prod.snd (Prod.snd (List.getD (List.set (List.set x0 (Int.toNat v5) (g25_0 x1, Prod.snd (List.getD x0 (Int.toNat v5) (ByteArray.empty, 0, 0, 0, ())))) (Int.toNat v5) (Prod.fst (List.getD (List.set x0 (Int.toNat v5) (g25_0 x1, Prod.snd (List.getD x0 (Int.toNat v5) (ByteArray.empty, 0, 0, 0, ())))) (Int.toNat v5) (ByteArray.empty, 0, 0, 0, ())), x1 + 1, Prod.snd (Prod.snd (List.getD (List.set x0 (Int.toNat v5) (g25_0 x1, Prod.snd (List.getD x0 (Int.toNat v5) (ByteArray.empty, 0, 0, 0, ())))) (Int.toNat v5) (ByteArray.empty, 0, 0, 0, ()))))) (Int.toNat v5) (ByteArray.empty, 0, 0, 0, ())))))) (Int.toNat v5) (ByteArray.empty, 0, 0, 0, ())))), x1 + 1 + 1 + 1, Prod.snd (Prod.snd (Prod.snd (Prod.snd (List.getD (List.set (List.set (List.set x0 (Int.toNat v5) (g25_0 x1, Prod.snd (List.getD x0 (Int.toNat v5) (ByteArray.empty, 0, 0, 0, ())))) (Int.toNat v5) (Prod.fst (List.getD (List.set x0 (Int.toNat v5) (g25_0 x1, Prod.snd (List.getD x0 (Int.toNat v5) (ByteArray.empty, 0, 0, 0, ())))) (Int.toNat v5) (ByteArray.empty, 0, 0, 0, ())), x1 + 1, Prod.snd (Prod.snd (List.getD (List.set x0 (Int.toNat v5) (g25_0 x1, Prod.snd (List.getD x0 (Int.toNat v5) (ByteArray.empty, 0, 0, 0, ())))) (Int.toNat v5) (ByteArray.empty, 0, 0, 0, ()))))) (Int.toNat v5) (Prod.fst (List.getD (List.set (List.set x0 (Int.toNat v5) (g25_0 x1, Prod.snd (List.getD x0 (Int.toNat v5) (ByteArray.empty, 0, 0, 0, ())))) (Int.toNat v5) (Prod.fst (List.getD (List.set x0 (Int.toNat v5) (g25_0 x1, Prod.snd (List.getD x0 (Int.toNat v5) (ByteArray.empty, 0, 0, 0, ())))) (Int.toNat v5) (ByteArray.empty, 0, 0, 0, ())), x1 + 1, Prod.snd (Prod.snd (List.getD (List.set x0 (Int.toNat v5) (g25_0 x1, Prod.snd (List.getD x0 (Int.toNat v5) (ByteArray.empty, 0, 0, 0, ())))) (Int.toNat v5) (ByteArray.empty, 0, 0, 0, ()))))) (Int.toNat v5) (ByteArray.empty, 0, 0, 0, ())), Prod.fst (Prod.snd (List.getD (List.set (List.set x0 (Int.toNat v5) (g25_0 x1, Prod.snd (List.getD x0 (Int.toNat v5) (ByteArray.empty, 0, 0, 0, ())))) (Int.toNat v5) (Prod.fst (List.getD (List.set x0 (Int.toNat v5) (g25_0 x1, Prod.snd (List.getD x0 (Int.toNat v5) (ByteArray.empty, 0, 0, 0, ())))) (Int.toNat v5) (ByteArray.empty, 0, 0, 0, ())), x1 + 1, Prod.snd (Prod.snd (List.getD (List.set x0 (Int.toNat v5) (g25_0 x1, Prod.snd (List.getD x0 (Int.toNat v5) (ByteArray.empty, 0, 0, 0, ())))) (Int.toNat v5) (ByteArray.empty, 0, 0, 0, ()))))) (Int.toNat v5) (ByteArray.empty, 0, 0, 0, ()))), x1 + 1 + 1, Prod.snd (Prod.snd (Prod.snd (List.getD (List.set (List.set x0 (Int.toNat v5) (g25_0 x1, Prod.snd (List.getD x0 (Int.toNat v5) (ByteArray.empty, 0, 0, 0, ())))) (Int.toNat v5) (Prod.fst (List.getD (List.set x0 (Int.toNat v5) (g25_0 x1, Prod.snd (List.getD x0 (Int.toNat v5) (ByteArray.empty, 0, 0, 0, ())))) (Int.toNat v5) (ByteArray.empty, 0, 0, 0, ())), x1 + 1, Prod.snd (Prod.snd (List.getD (List.set x0 (Int.toNat v5) (g25_0 x1, Prod.snd (List.getD x0 (Int.toNat v5) (ByteArray.empty, 0, 0, 0, ())))) (Int.toNat v5) (ByteArray.empty, 0, 0, 0, ()))))) (Int.toNat v5) (ByteArray.empty, 0, 0, 0, ())))))) (Int.toNat v5) (ByteArray.empty, 0, 0, 0, ()))))))), L10_2 (v5 + 1) (x1 + 1 + 1 + 1 + 1) (List.set (List.set (List.set (List.set x0 (Int.toNat v5) (g25_0 x1, Prod.snd (List.getD x0 (Int.toNat v5) (ByteArray.empty, 0, 0, 0, ())))) (Int.toNat v5) (Prod.fst (List.getD (List.set x0 (Int.toNat v5) (g25_0 x1, Prod.snd (List.getD x0 (Int.toNat v5) (ByteArray.empty, 0, 0, 0, ())))) (Int.toNat v5) (ByteArray.empty, 0, 0, 0, ())), x1 + 1, Prod.snd (Prod.snd (List.getD (List.set x0 (Int.toNat v5) (g25_0 x1, Prod.snd (List.getD x0 (Int.toNat v5) (ByteArray.empty, 0, 0, 0, ())))) (Int.toNat v5) (ByteArray.empty, 0, 0, 0, ()))))) (Int.toNat v5) (Prod.fst (List.getD (List.set (List.set x0 (Int.toNat v5) (g25_0 x1, Prod.snd (List.getD x0 (Int.toNat v5) (ByteArray.empty, 0, 0, 0, ())))) (Int.toNat v5) (Prod.fst (List.getD (List.set x0 (Int.toNat v5) (g25_0 x1, Prod.snd (List.getD x0 (Int.toNat v5) (ByteArray.empty, 0, 0, 0, ())))) (Int.toNat v5) (ByteArray.empty, 0, 0, 0, ())), x1 + 1, Prod.snd (Prod.snd (List.getD (List.set x0 (Int.toNat v5) (g25_0 x1, Prod.snd (List.getD x0 (Int.toNat v5) (ByteArray.empty, 0, 0, 0, ())))) (Int.toNat v5) (ByteArray.empty, 0, 0, 0, ()))))) (Int.toNat v5) (ByteArray.empty, 0, 0, 0, ())), Prod.fst (Prod.snd (List.getD (List.set (List.set x0 (Int.toNat v5) (g25_0 x1, Prod.snd (List.getD x0 (Int.toNat v5) (ByteArray.empty, 0, 0, 0, ())))) (Int.toNat v5) (Prod.fst (List.getD (List.set x0 (Int.toNat v5) (g25_0 x1, Prod.snd (List.getD x0 (Int.toNat v5) (ByteArray.empty, 0, 0, 0, ())))) (Int.toNat v5) (ByteArray.empty, 0, 0, 0, ())), x1 + 1, Prod.snd (Prod.snd (List.getD (List.set x0 (Int.toNat v5) (g25_0 x1, Prod.snd (List.getD x0 (Int.toNat v5) (ByteArray.empty, 0, 0, 0, ())))) (Int.toNat v5) (ByteArray.empty, 0, 0, 0, ()))))) (Int.toNat v5) (ByteArray.empty, 0, 0, 0, ()))), x1 + 1 + 1, Prod.snd (Prod.snd (Prod.snd (List.getD (List.set (List.set x0 (Int.toNat v5) (g25_0 x1, Prod.snd (List.getD x0 (Int.toNat v5) (ByteArray.empty, 0, 0, 0, ())))) (Int.toNat v5) (Prod.fst (List.getD (List.set x0 (Int.toNat v5) (g25_0 x1, Prod.snd (List.getD x0 (Int.toNat v5) (ByteArray.empty, 0, 0, 0, ())))) (Int.toNat v5) (ByteArray.empty, 0, 0, 0, ())), x1 + 1, Prod.snd (Prod.snd (List.getD (List.set x0 (Int.toNat v5) (g25_0 x1, Prod.snd (List.getD x0 (Int.toNat v5) (ByteArray.empty, 0, 0, 0, ())))) (Int.toNat v5) (ByteArray.empty, 0, 0, 0, ()))))) (Int.toNat v5) (ByteArray.empty, 0, 0, 0, ())))))) (Int.toNat v5) (Prod.fst (List.getD (List.set (List.set (List.set x0 (Int.toNat v5) (g25_0 x1, Prod.snd (List.getD x0 (Int.toNat v5) (ByteArray.empty, 0, 0, 0, ())))) (Int.toNat v5) (Prod.fst (List.getD (List.set x0 (Int.toNat v5) (g25_0 x1, Prod.snd (List.getD x0 (Int.toNat v5) (ByteArray.empty, 0, 0, 0, ())))) (Int.toNat v5) (ByteArray.empty, 0, 0, 0, ())), x1 + 1, Prod.snd (Prod.snd (List.getD (List.set x0 (Int.toNat v5) (g25_0 x1, Prod.snd (List.getD x0 (Int.toNat v5) (ByteArray.empty, 0, 0, 0, ())))) (Int.toNat v5) (ByteArray.empty, 0, 0, 0, ()))))) (Int.toNat v5) (Prod.fst (List.getD (List.set (List.set x0 (Int.toNat v5) (g25_0 x1, Prod.snd (List.getD x0 (Int.toNat v5) (ByteArray.empty, 0, 0, 0, ())))) (Int.toNat v5) (Prod.fst (List.getD (List.set x0 (Int.toNat v5) (g25_0 x1, Prod.snd (List.getD x0 (Int.toNat v5) (ByteArray.empty, 0, 0, 0, ())))) (Int.toNat v5) (ByteArray.empty, 0, 0, 0, ())), x1 + 1, Prod.snd (Prod.snd (List.getD (List.set x0 (Int.toNat v5) (g25_0 x1, Prod.snd (List.getD x0 (Int.toNat v5) (ByteArray.empty, 0, 0, 0, ())))) (Int.toNat v5) (ByteArray.empty, 0, 0, 0, ()))))) (Int.toNat v5) (ByteArray.empty, 0, 0, 0, ())), Prod.fst (Prod.snd (List.getD (List.set (List.set x0 (Int.toNat v5) (g25_0 x1, Prod.snd (List.getD x0 (Int.toNat v5) (ByteArray.empty, 0, 0, 0, ())))) (Int.toNat v5) (Prod.fst (List.getD (List.set x0 (Int.toNat v5) (g25_0 x1, Prod.snd (List.getD x0 (Int.toNat v5) (ByteArray.empty, 0, 0, 0, ())))) (Int.toNat v5) (ByteArray.empty, 0, 0, 0, ())), x1 + 1, Prod.snd (Prod.snd (List.getD (List.set x0 (Int.toNat v5) (g25_0 x1, Prod.snd (List.getD x0 (Int.toNat v5) (ByteArray.empty, 0, 0, 0, ())))) (Int.toNat v5) (ByteArray.empty, 0, 0, 0, ()))))) (Int.toNat v5) (ByteArray.empty, 0, 0, 0, ()))), x1 + 1 + 1, Prod.snd (Prod.snd (Prod.snd (List.getD (List.set (List.set x0 (Int.toNat v5) (g25_0 x1, Prod.snd (List.getD x0 (Int.toNat v5) (ByteArray.empty, 0, 0, 0, ())))) (Int.toNat v5) (Prod.fst (List.getD (List.set x0 (Int.toNat v5) (g25_0 x1, Prod.snd (List.getD x0 (Int.toNat v5) (ByteArray.empty, 0, 0, 0, ())))) (Int.toNat v5) (ByteArray.empty, 0, 0, 0, ())), x1 + 1, Prod.snd (Prod.snd (List.getD (List.set x0 (Int.toNat v5) (g25_0 x1, Prod.snd (List.getD x0 (Int.toNat v5) (ByteArray.empty, 0, 0, 0, ())))) (Int.toNat v5) (ByteArray.empty, 0, 0, 0, ()))))) (Int.toNat v5) (ByteArray.empty, 0, 0, 0, ())))))) (Int.toNat v5) (ByteArray.empty, 0, 0, 0, ())), Prod.fst (Prod.snd (List.getD (List.set (List.set (List.set x0 (Int.toNat v5) (g25_0 x1, Prod.snd (List.getD x0 (Int.toNat v5) (ByteArray.empty, 0, 0, 0, ())))) (Int.toNat v5) (Prod.fst (List.getD (List.set x0 (Int.toNat v5) (g25_0 x1, Prod.snd (List.getD x0 (Int.toNat v5) (ByteArray.empty, 0, 0, 0, ())))) (Int.toNat v5) (ByteArray.empty, 0, 0, 0, ())), x1 + 1, Prod.snd (Prod.snd (List.getD (List.set x0 (Int.toNat v5) (g25_0 x1, Prod.snd (List.getD x0 (Int.toNat v5) (ByteArray.empty, 0, 0, 0, ())))) (Int.toNat v5) (ByteArray.empty, 0, 0, 0, ()))))) (Int.toNat v5) (Prod.fst (List.getD (List.set (List.set x0 (Int.toNat v5) (g25_0 x1, Prod.snd (List.getD x0 (Int.toNat v5) (ByteArray.empty, 0, 0, 0, ())))) (Int.toNat v5) (Prod.fst (List.getD (List.set x0 (Int.toNat v5) (g25_0 x1, Prod.snd (List.getD x0 (Int.toNat v5) (ByteArray.empty, 0, 0, 0, ())))) (Int.toNat v5) (ByteArray.empty, 0, 0, 0, ())), x1 + 1, Prod.snd (Prod.snd (List.getD (List.set x0 (Int.toNat v5) (g25_0 x1, Prod.snd (List.getD x0 (Int.toNat v5) (ByteArray.empty, 0, 0, 0, ())))) (Int.toNat v5) (ByteArray.empty, 0, 0, 0, ()))))) (Int.toNat v5) (ByteArray.empty, 0, 0, 0, ())), Prod.fst (Prod.snd (List.getD (List.set (List.set x0 (Int.toNat v5) (g25_0 x1, Prod.snd (List.getD x0 (Int.toNat v5) (ByteArray.empty, 0, 0, 0, ())))) (Int.toNat v5) (Prod.fst (List.getD (List.set x0 (Int.toNat v5) (g25_0 x1, Prod.snd (List.getD x0 (Int.toNat v5) (ByteArray.empty, 0, 0, 0, ())))) (Int.toNat v5) (ByteArray.empty, 0, 0, 0, ())), x1 + 1, Prod.snd (Prod.snd (List.getD (List.set x0 (Int.toNat v5) (g25_0 x1, Prod.snd (List.getD x0 (Int.toNat v5) (ByteArray.empty, 0, 0, 0, ())))) (Int.toNat v5) (ByteArray.empty, 0, 0, 0, ()))))) (Int.toNat v5) (ByteArray.empty, 0, 0, 0, ()))), x1 + 1 + 1, Prod.snd (Prod.snd (Prod.snd (List.getD (List.set (List.set x0 (Int.toNat v5) (g25_0 x1, Prod.snd (List.getD x0 (Int.toNat v5) (ByteArray.empty, 0, 0, 0, ())))) (Int.toNat v5) (Prod.fst (List.getD (List.set x0 (Int.toNat v5) (g25_0 x1, Prod.snd (List.getD x0 (Int.toNat v5) (ByteArray.empty, 0, 0, 0, ())))) (Int.toNat v5) (ByteArray.empty, 0, 0, 0, ())), x1 + 1, Prod.snd (Prod.snd (List.getD (List.set x0 (Int.toNat v5) (g25_0 x1, Prod.snd (List.getD x0 (Int.toNat v5) (ByteArray.empty, 0, 0, 0, ())))) (Int.toNat v5) (ByteArray.empty, 0, 0, 0, ()))))) (Int.toNat v5) (ByteArray.empty, 0, 0, 0, ())))))) (Int.toNat v5) (ByteArray.empty, 0, 0, 0, ()))), Prod.fst (Prod.snd (Prod.snd (List.getD (List.set (List.set (List.set x0 (Int.toNat v5) (g25_0 x1, Prod.snd (List.getD x0 (Int.toNat v5) (ByteArray.empty, 0, 0, 0, ())))) (Int.toNat v5) (Prod.fst (List.getD (List.set x0 (Int.toNat v5) (g25_0 x1, Prod.snd (List.getD x0 (Int.toNat v5) (ByteArray.empty, 0, 0, 0, ())))) (Int.toNat v5) (ByteArray.empty, 0, 0, 0, ())), x1 + 1, Prod.snd (Prod.snd (List.getD (List.set x0 (Int.toNat v5) (g25_0 x1, Prod.snd (List.getD x0 (Int.toNat v5) (ByteArray.empty, 0, 0, 0, ())))) (Int.toNat v5) (ByteArray.empty, 0, 0, 0, ()))))) (Int.toNat v5) (Prod.fst (List.getD (List.set (List.set x0 (Int.toNat v5) (g25_0 x1, Prod.snd (List.getD x0 (Int.toNat v5) (ByteArray.empty, 0, 0, 0, ())))) (Int.toNat v5) (Prod.fst (List.getD (List.set x0 (Int.toNat v5) (g25_0 x1, Prod.snd (List.getD x0 (Int.toNat v5) (ByteArray.empty, 0, 0, 0, ())))) (Int.toNat v5) (ByteArray.empty, 0, 0, 0, ())), x1 + 1, Prod.snd (Prod.snd (List.getD (List.set x0 (Int.toNat v5) (g25_0 x1, Prod.snd (List.getD x0 (Int.toNat v5) (ByteArray.empty, 0, 0, 0, ())))) (Int.toNat v5) (ByteArray.empty, 0, 0, 0, ()))))) (Int.toNat v5) (ByteArray.empty, 0, 0, 0, ())), Prod.fst (Prod.snd (List.getD (List.set (List.set x0 (Int.toNat v5) (g25_0 x1, Prod.snd (List.getD x0 (Int.toNat v5) (ByteArray.empty, 0, 0, 0, ())))) (Int.toNat v5) (Prod.fst (List.getD (List.set x0 (Int.toNat v5) (g25_0 x1, Prod.snd (List.getD x0 (Int.toNat v5) (ByteArray.empty, 0, 0, 0, ())))) (Int.toNat v5) (ByteArray.empty, 0, 0, 0, ())), x1 + 1, Prod.snd (Prod.snd (List.getD (List.set x0 (Int.toNat v5) (g25_0 x1, Prod.snd (List.getD x0 (Int.toNat v5) (ByteArray.empty, 0, 0, 0, ())))) (Int.toNat v5) (ByteArray.empty, 0, 0, 0, ()))))) (Int.toNat v5) (ByteArray.empty, 0, 0, 0, ()))), x1 + 1 + 1, Prod.snd (Prod.snd (Prod.snd (List.getD (List.set (List.set x0 (Int.toNat v5) (g25_0 x1, Prod.snd (List.getD x0 (Int.toNat v5) (ByteArray.empty, 0, 0, 0, ())))) (Int.toNat v5) (Prod.fst (List.getD (List.set x0 (Int.toNat v5) (g25_0 x1, Prod.snd (List.getD x0 (Int.toNat v5) (ByteArray.empty, 0, 0, 0, ())))) (Int.toNat v5) (ByteArray.empty, 0, 0, 0, ())), x1 + 1, Prod.snd (Prod.snd (List.getD (List.set x0 (Int.toNat v5) (g25_0 x1, Prod.snd (List.getD x0 (Int.toNat v5) (ByteArray.empty, 0, 0, 0, ())))) (Int.toNat v5) (ByteArray.empty, 0, 0, 0, ()))))) (Int.toNat v5) (ByteArray.empty, 0, 0, 0, ())))))) (Int.toNat v5) (ByteArray.empty, 0, 0, 0, ())))), x1 + 1 + 1 + 1, Prod.snd (Prod.snd (Prod.snd (Prod.snd (List.getD (List.set (List.set (List.set x0 (Int.toNat v5) (g25_0 x1, Prod.snd (List.getD x0 (Int.toNat v5) (ByteArray.empty, 0, 0, 0, ())))) (Int.toNat v5) (Prod.fst (List.getD (List.set x0 (Int.toNat v5) (g25_0 x1, Prod.snd (List.getD x0 (Int.toNat v5) (ByteArray.empty, 0, 0, 0, ())))) (Int.toNat v5) (ByteArray.empty, 0, 0, 0, ())), x1 + 1, Prod.snd (Prod.snd (List.getD (List.set x0 (Int.toNat v5) (g25_0 x1, Prod.snd (List.getD x0 (Int.toNat v5) (ByteArray.empty, 0, 0, 0, ())))) (Int.toNat v5) (ByteArray.empty, 0, 0, 0, ()))))) (Int.toNat v5) (Prod.fst (List.getD (List.set (List.set x0 (Int.toNat v5) (g25_0 x1, Prod.snd (List.getD x0 (Int.toNat v5) (ByteArray.empty, 0, 0, 0, ())))) (Int.toNat v5) (Prod.fst (List.getD (List.set x0 (Int.toNat v5) (g25_0 x1, Prod.snd (List.getD x0 (Int.toNat v5) (ByteArray.empty, 0, 0, 0, ())))) (Int.toNat v5) (ByteArray.empty, 0, 0, 0, ())), x1 + 1, Prod.snd (Prod.snd (List.getD (List.set x0 (Int.toNat v5) (g25_0 x1, Prod.snd (List.getD x0 (Int.toNat v5) (ByteArray.empty, 0, 0, 0, ())))) (Int.toNat v5) (ByteArray.empty, 0, 0, 0, ()))))) (Int.toNat v5) (ByteArray.empty, 0, 0, 0, ())), Prod.fst (Prod.snd (List.getD (List.set (List.set x0 (Int.toNat v5) (g25_0 x1, Prod.snd (List.getD x0 (Int.toNat v5) (ByteArray.empty, 0, 0, 0, ())))) (Int.toNat v5) (Prod.fst (List.getD (List.set x0 (Int.toNat v5) (g25_0 x1, Prod.snd (List.getD x0 (Int.toNat v5) (ByteArray.empty, 0, 0, 0, ())))) (Int.toNat v5) (ByteArray.empty, 0, 0, 0, ())), x1 + 1, Prod.snd (Prod.snd (List.getD (List.set x0 (Int.toNat v5) (g25_0 x1, Prod.snd (List.getD x0 (Int.toNat v5) (ByteArray.empty, 0, 0, 0, ())))) (Int.toNat v5) (ByteArray.empty, 0, 0, 0, ()))))) (Int.toNat v5) (ByteArray.empty, 0, 0, 0, ()))), x1 + 1 + 1, Prod.snd (Prod.snd (Prod.snd (List.getD (List.set (List.set x0 (Int.toNat v5) (g25_0 x1, Prod.snd (List.getD x0 (Int.toNat v5) (ByteArray.empty, 0, 0, 0, ())))) (Int.toNat v5) (Prod.fst (List.getD (List.set x0 (Int.toNat v5) (g25_0 x1, Prod.snd (List.getD x0 (Int.toNat v5) (ByteArray.empty, 0, 0, 0, ())))) (Int.toNat v5) (ByteArray.empty, 0, 0, 0, ())), x1 + 1, Prod.snd (Prod.snd (List.getD (List.set x0 (Int.toNat v5) (g25_0 x1, Prod.snd (List.getD x0 (Int.toNat v5) (ByteArray.empty, 0, 0, 0, ())))) (Int.toNat v5) (ByteArray.empty, 0, 0, 0, ()))))) (Int.toNat v5) (ByteArray.empty, 0, 0, 0, ())))))) (Int.toNat v5) (ByteArray.empty, 0, 0, 0, ()))))))), [Decidable.decide (v5 < (↑(List.length x0) : Int)) = Bool.true, True, 0 ≤ v5, v5 < (↑(List.length x0) : Int), InR IntKind.i64 (x1 + 1), 0 ≤ v5, v5 < (↑(List.length (List.set x0 (Int.toNat v5) (g25_0 x1, Prod.snd (List.getD x0 (Int.toNat v5) (ByteArray.empty, 0, 0, 0, ()))))) : Int), InR IntKind.i64 (x1 + 1 + 1), 0 ≤ v5, v5 < (↑(List.length (List.set (List.set x0 (Int.toNat v5) (g25_0 x1, Prod.snd (List.getD x0 (Int.toNat v5) (ByteArray.empty, 0, 0, 0, ())))) (Int.toNat v5) (Prod.fst (List.getD (List.set x0 (Int.toNat v5) (g25_0 x1, Prod.snd (List.getD x0 (Int.toNat v5) (ByteArray.empty, 0, 0, 0, ())))) (Int.toNat v5) (ByteArray.empty, 0, 0, 0, ())), x1 + 1, Prod.snd (Prod.snd (List.getD (List.set x0 (Int.toNat v5) (g25_0 x1, Prod.snd (List.getD x0 (Int.toNat v5) (ByteArray.empty, 0, 0, 0, ())))) (Int.toNat v5) (ByteArray.empty, 0, 0, 0, ())))))) : Int), InR IntKind.i64 (x1 + 1 + 1 + 1), 0 ≤ v5, v5 < (↑(List.length (List.set (List.set (List.set x0 (Int.toNat v5) (g25_0 x1, Prod.snd (List.getD x0 (Int.toNat v5) (ByteArray.empty, 0, 0, 0, ())))) (Int.toNat v5) (Prod.fst (List.getD (List.set x0 (Int.toNat v5) (g25_0 x1, Prod.snd (List.getD x0 (Int.toNat v5) (ByteArray.empty, 0, 0, 0, ())))) (Int.toNat v5) (ByteArray.empty, 0, 0, 0, ())), x1 + 1, Prod.snd (Prod.snd (List.getD (List.set x0 (Int.toNat v5) (g25_0 x1, Prod.snd (List.getD x0 (Int.toNat v5) (ByteArray.empty, 0, 0, 0, ())))) (Int.toNat v5) (ByteArray.empty, 0, 0, 0, ()))))) (Int.toNat v5) (Prod.fst (List.getD (List.set (List.set x0 (Int.toNat v5) (g25_0 x1, Prod.snd (List.getD x0 (Int.toNat v5) (ByteArray.empty, 0, 0, 0, ())))) (Int.toNat v5) (Prod.fst (List.getD (List.set x0 (Int.toNat v5) (g25_0 x1, Prod.snd (List.getD x0 (Int.toNat v5) (ByteArray.empty, 0, 0, 0, ())))) (Int.toNat v5) (ByteArray.empty, 0, 0, 0, ())), x1 + 1, Prod.snd (Prod.snd (List.getD (List.set x0 (Int.toNat v5) (g25_0 x1, Prod.snd (List.getD x0 (Int.toNat v5) (ByteArray.empty, 0, 0, 0, ())))) (Int.toNat v5) (ByteArray.empty, 0, 0, 0, ()))))) (Int.toNat v5) (ByteArray.empty, 0, 0, 0, ())), Prod.fst (Prod.snd (List.getD (List.set (List.set x0 (Int.toNat v5) (g25_0 x1, Prod.snd (List.getD x0 (Int.toNat v5) (ByteArray.empty, 0, 0, 0, ())))) (Int.toNat v5) (Prod.fst (List.getD (List.set x0 (Int.toNat v5) (g25_0 x1, Prod.snd (List.getD x0 (Int.toNat v5) (ByteArray.empty, 0, 0, 0, ())))) (Int.toNat v5) (ByteArray.empty, 0, 0, 0, ())), x1 + 1, Prod.snd (Prod.snd (List.getD (List.set x0 (Int.toNat v5) (g25_0 x1, Prod.snd (List.getD x0 (Int.toNat v5) (ByteArray.empty, 0, 0, 0, ())))) (Int.toNat v5) (ByteArray.empty, 0, 0, 0, ()))))) (Int.toNat v5) (ByteArray.empty, 0, 0, 0, ()))), x1 + 1 + 1, Prod.snd (Prod.snd (Prod.snd (List.getD (List.set (List.set x0 (Int.toNat v5) (g25_0 x1, Prod.snd (List.getD x0 (Int.toNat v5) (ByteArray.empty, 0, 0, 0, ())))) (Int.toNat v5) (Prod.fst (List.getD (List.set x0 (Int.toNat v5) (g25_0 x1, Prod.snd (List.getD x0 (Int.toNat v5) (ByteArray.empty, 0, 0, 0, ())))) (Int.toNat v5) (ByteArray.empty, 0, 0, 0, ())), x1 + 1, Prod.snd (Prod.snd (List.getD (List.set x0 (Int.toNat v5) (g25_0 x1, Prod.snd (List.getD x0 (Int.toNat v5) (ByteArray.empty, 0, 0, 0, ())))) (Int.toNat v5) (ByteArray.empty, 0, 0, 0, ()))))) (Int.toNat v5) (ByteArray.empty, 0, 0, 0, ()))))))) : Int), InR IntKind.i64 (x1 + 1 + 1 + 1 + 1), InR IntKind.i64 (v5 + 1)]) := by kernel_rfl
theorem p10_2 (v5 : Int) (x1 : Int) (x0 : List (ByteArray × Int × Int × Int × Unit)) : runF tab ext10 false 42 [] 2000 [0] oks10 kds10 tys10 Tryd.f10.results [false] (cutAt b10 2) (E10_2 v5 x1 x0) (L10_2 v5 x1 x0) = some ([Dyn.mk (Ty.int IntKind.i64) x1], [Option.some (Lst.mk (Ty.cons Ty.str (Ty.cons (Ty.int IntKind.i64) (Ty.cons (Ty.int IntKind.i64) (Ty.cons (Ty.int IntKind.i64) Ty.unit)))) x0)], [Decidable.decide (v5 < (↑(List.length x0) : Int)) = Bool.false]) := by kernel_rfl
theorem snd10 : ∀ n, (∀ (x0 : List (ByteArray × Int × Int × Int × Unit)) (x1 : Int) ds us, R10 n x0 x1 ds us → ∀ K q, AtV Tryd.prog 10 (PostR kds10 oks10 ds us [0] q K) 42 K q [0] [.code b10] (entE 0 0 sig10 (x0, x1, ())) (entL sig10 (x0, x1, ()))) ∧ (∀ (v5 : Int) (x1 : Int) (x0 : List (ByteArray × Int × Int × Int × Unit)) ds us, R10_2 n v5 x1 x0 ds us → ∀ K q, AtV Tryd.prog 10 (PostR kds10 oks10 ds us [0] q K) 42 K q [0] (cutAt b10 2) (E10_2 v5 x1 x0) (L10_2 v5 x1 x0)) := by
  intro n
  induction n with
  | zero => exact ⟨fun _ _ _ _ h => by simp only [R10] at h, fun _ _ _ _ _ h => by simp only [R10_2] at h⟩
  | succ n ih =>
  obtain ⟨ih, ih2⟩ := ih
  refine ⟨?_, ?_⟩
  · intro x0 x1 ds us h K q
    rw [R10] at h
    exact AtV.runN tabOk ext10Ok mixed (p10_0 x0 x1) trivial (ih2 _ _ _ _ _ h K q)

  · intro v5 x1 x0 ds us h K q
    rw [R10_2] at h
    by_cases b0 : (Decidable.decide (v5 < (↑(List.length x0) : Int))) = true
    · rw [if_pos b0] at h
      obtain ⟨s0, s1, h⟩ := h
      obtain ⟨s2, h⟩ := h
      obtain ⟨s3, s4, h⟩ := h
      obtain ⟨s5, h⟩ := h
      obtain ⟨s6, s7, h⟩ := h
      obtain ⟨s8, h⟩ := h
      obtain ⟨s9, s10, h⟩ := h
      obtain ⟨s11, h⟩ := h
      obtain ⟨s12, h⟩ := h
      exact AtV.runN tabOk ext10Ok mixed (p10_1 v5 x1 x0) ⟨b0, trivial, s0, s1, s2, s3, s4, s5, s6, s7, s8, s9, s10, s11, s12, trivial⟩ (ih2 _ _ _ _ _ h K q)
    · rw [if_neg b0] at h
      replace b0 := Bool.eq_false_iff.2 b0
      obtain ⟨h, h'⟩ := h; subst h; subst h'
      exact AtV.fin Tryd.func10 tabOk ext10Ok mixed (p10_2 v5 x1 x0) ⟨b0, trivial⟩



def M10 (x1 : Int) (n : Nat) : List (ByteArray × Int × Int × Int × Unit) := (List.range n).map fun (j : Nat) => (g25_0 (x1 + 4 * (j : Int)), (x1 + 4 * (j : Int) + 1), (x1 + 4 * (j : Int) + 1 + 1), (x1 + 4 * (j : Int) + 1 + 1 + 1), ())

theorem M10_len (x1 : Int) (n : Nat) : (M10 x1 n).length = n := by simp [M10]

theorem M10_succ (x1 : Int) (n : Nat) : M10 x1 (n + 1) = M10 x1 n ++ [(g25_0 (x1 + 4 * (n : Int)), (x1 + 4 * (n : Int) + 1), (x1 + 4 * (n : Int) + 1 + 1), (x1 + 4 * (n : Int) + 1 + 1 + 1), ())] := by
  simp [M10, List.range_succ]

theorem run10 (x0 : List (ByteArray × Int × Int × Int × Unit)) (x1 : Int) (hm : x0.length ≤ maxLen) (h0 : 0 ≤ x1) (h1 : x1 + 4 * x0.length ≤ 9223372036854775807) : ∀ (k i : Nat), i + k = x0.length →
    R10_2 (k + 1) (i : Int) (x1 + 4 * (i : Int)) (M10 x1 i ++ x0.drop i) [⟨.int .i64, x1 + 4 * (x0.length : Int)⟩] [some ⟨(.cons .str (.cons (.int .i64) (.cons (.int .i64) (.cons (.int .i64) .unit)))), M10 x1 x0.length⟩] := by
  intro k
  induction k with
  | zero =>
    intro i hi
    have hl : (M10 x1 i ++ x0.drop i).length = x0.length := by simp [M10_len]; omega
    rw [R10_2, if_neg (by rw [hl]; simp; omega), drop_end x0 i (by omega), List.append_nil]
    have : i = x0.length := by omega
    subst this
    exact ⟨rfl, rfl⟩
  | succ k ih =>
    intro i hi
    have hl : (M10 x1 i ++ x0.drop i).length = x0.length := by simp [M10_len]; omega
    have hA := M10_len x1 i
    rw [R10_2, if_pos (by rw [hl]; simp; omega)]
    rw [drop_get x0 i (ByteArray.empty, (0 : Int), (0 : Int), (0 : Int), ()) (by omega)] at hl ⊢
    simp only [Int.toNat_natCast, set_mid _ _ _ _ i hA, get_mid _ _ _ _ i hA]
    have hl' : ∀ y : (ByteArray × Int × Int × Int × Unit), ((M10 x1 i ++ y :: x0.drop (i + 1)).length : Int) = x0.length := fun y => by rw [← hl]; simp
    simp only [hl']
    refine ⟨by omega, by omega, by rw [i64_iff]; omega, by omega, by omega, by rw [i64_iff]; omega, by omega, by omega, by rw [i64_iff]; omega, by omega, by omega, by rw [i64_iff]; omega, inR_up hm (by omega), ?_⟩
    have hx : x1 + 4 * (i : Int) + 1 + 1 + 1 + 1 = x1 + 4 * ((i + 1 : Nat) : Int) := by omega
    have := ih (i + 1) (by omega)
    rw [M10_succ, List.append_assoc] at this
    rw [hx]
    simpa using this

def P10 (x0 : List (ByteArray × Int × Int × Int × Unit)) (x1 : Int) : Prop := 0 ≤ x1 ∧ x1 + 4 * x0.length ≤ 9223372036854775807
def g10_0 (x0 : List (ByteArray × Int × Int × Int × Unit)) (x1 : Int) : Int := x1 + 4 * (x0.length : Int)
def u10_0 (x0 : List (ByteArray × Int × Int × Int × Unit)) (x1 : Int) : List (ByteArray × Int × Int × Int × Unit) := M10 x1 x0.length

theorem top10 (x0 : List (ByteArray × Int × Int × Int × Unit)) (x1 : Int) (hm : x0.length ≤ maxLen) (h : P10 x0 x1) : R10 (x0.length + 1 + 1) x0 x1 [⟨.int .i64, g10_0 x0 x1⟩] [some ⟨(.cons .str (.cons (.int .i64) (.cons (.int .i64) (.cons (.int .i64) .unit)))), u10_0 x0 x1⟩] := by
  rw [R10]
  have := run10 x0 x1 hm h.1 h.2 x0.length 0 (by omega)
  simpa [M10, g10_0, u10_0] using this

def S10 : Am.Spec := { sig := sig10, pre := fun ⟨x0, x1, _⟩ => P10 x0 x1, upd := fun ⟨x0, x1, _⟩ => [some ⟨(.cons .str (.cons (.int .i64) (.cons (.int .i64) (.cons (.int .i64) .unit)))), u10_0 x0 x1⟩], res := fun ⟨x0, x1, _⟩ => [⟨.int .i64, g10_0 x0 x1⟩] }
theorem con10 : Contract Tryd.prog 10 S10 := contract_of Tryd.func10 hb10 (Nat.le_of_ble_eq_true (by kernel_rfl)) (fun ⟨x0, x1, _⟩ h hwf K q =>
  (snd10 _).1 x0 x1 _ _ (top10 x0 x1 hwf.1.1 h) K q)

end
end Go.Proofs.YtpledggbnnjbiaaDoor

/- Function 11 (laws.markStringS): its runs between cut points. Written by a program of this repo (gen). -/
set_option linter.unusedVariables false
set_option linter.unusedSimpArgs false
set_option maxRecDepth 100000
namespace Go.Proofs.YtpledggbnnjbiaaDoor
open Go Go.Am Go.Proofs
noncomputable section
def ext11 : Ext := [(25, S25)]
theorem call11_25 : Callable Tryd.prog 25 := ⟨Tryd.f25, Tryd.func25, by kernel_rfl, by kernel_rfl⟩
theorem ext11Ok : ExtOk Tryd.prog ext11 := ⟨⟨call11_25, con25⟩, trivial⟩

noncomputable def b11 : Code := bodyOf Tryd.f11
theorem hb11 : Tryd.f11.body = some b11 := by kernel_rfl
def sig11 : List AT := [AT.own Ty.str, AT.v (Ty.int IntKind.i64)]
def tys11 : List Ty := [Ty.int IntKind.i64]
def kds11 : List RK := []
def oks11 : List AT := owns sig11
def E11_2 (v5 : Int) (x1 : Int) (x0 : List ByteArray) : Env := [(0, PV.a (Atom.osl 0 Option.none)), (1, PV.a (Atom.val (Value.int IntKind.i64 x1))), (5, PV.a (Atom.val (Value.int IntKind.i64 v5)))]
def L11_2 (v5 : Int) (x1 : Int) (x0 : List ByteArray) : Heap := [Option.some (Arr.mk Ty.str x0 Bool.false Option.none Option.none)]
mutual
def R11 : Nat → List ByteArray → Int → List Dyn → List (Option Lst) → Prop
  | 0, _, _, _, _ => False
  | n + 1, x0, x1, ds, us => (R11_2 n (0) (x1) (x0) ds us)
def R11_2 : Nat → Int → Int → List ByteArray → List Dyn → List (Option Lst) → Prop
  | 0, _, _, _, _, _ => False
  | n + 1, v5, x1, x0, ds, us => (if (Decidable.decide (v5 < (↑(List.length x0) : Int))) = true then ((0 ≤ v5) ∧ (v5 < (↑(List.length x0) : Int)) ∧ ((InR IntKind.i64 (x1 + 1)) ∧ ((InR IntKind.i64 (v5 + 1)) ∧ (R11_2 n (v5 + 1) (x1 + 1) (List.set x0 (Int.toNat v5) (g25_0 x1)) ds us)))) else (ds = [Dyn.mk (Ty.int IntKind.i64) x1] ∧ us = [Option.some (Lst.mk Ty.str x0)]))
end
theorem p11_0 (x0 : List ByteArray) (x1 : Int) : Am.runN tab ext11 false 20 [] 2000 [0] [] [0, 1, 5] [0] [] [.code b11] (entE 0 0 sig11 (x0, x1, ())) (entL sig11 (x0, x1, ())) = some (cutAt b11 2, E11_2 (0) (x1) (x0), L11_2 (0) (x1) (x0), []) := by kernel_rfl
theorem p11_1 (v5 : Int) (x1 : Int) (x0 : List ByteArray) : Am.runN tab ext11 false 20 [] 2000 [0] [] [0, 1, 5] [0] [true] (cutAt b11 2) (E11_2 v5 x1 x0) (L11_2 v5 x1 x0) = some (cutAt b11 2, E11_2 (v5 + 1) (x1 + 1) (List.set x0 (Int.toNat v5) (g25_0 x1)), L11_2 (v5 + 1) (x1 + 1) (List.set x0 (Int.toNat v5) (g25_0 x1)), [Decidable.decide (v5 < (↑(List.length x0) : Int)) = Bool.true, True, 0 ≤ v5, v5 < (↑(List.length x0) : Int), InR IntKind.i64 (x1 + 1), InR IntKind.i64 (v5 + 1)]) := by kernel_rfl
theorem p11_2 (v5 : Int) (x1 : Int) (x0 : List ByteArray) : runF tab ext11 false 20 [] 2000 [0] oks11 kds11 tys11 Tryd.f11.results [false] (cutAt b11 2) (E11_2 v5 x1 x0) (L11_2 v5 x1 x0) = some ([Dyn.mk (Ty.int IntKind.i64) x1], [Option.some (Lst.mk Ty.str x0)], [Decidable.decide (v5 < (↑(List.length x0) : Int)) = Bool.false]) := by kernel_rfl
theorem snd11 : ∀ n, (∀ (x0 : List ByteArray) (x1 : Int) ds us, R11 n x0 x1 ds us → ∀ K q, AtV Tryd.prog 11 (PostR kds11 oks11 ds us [0] q K) 20 K q [0] [.code b11] (entE 0 0 sig11 (x0, x1, ())) (entL sig11 (x0, x1, ()))) ∧ (∀ (v5 : Int) (x1 : Int) (x0 : List ByteArray) ds us, R11_2 n v5 x1 x0 ds us → ∀ K q, AtV Tryd.prog 11 (PostR kds11 oks11 ds us [0] q K) 20 K q [0] (cutAt b11 2) (E11_2 v5 x1 x0) (L11_2 v5 x1 x0)) := by
  intro n
  induction n with
  | zero => exact ⟨fun _ _ _ _ h => by simp only [R11] at h, fun _ _ _ _ _ h => by simp only [R11_2] at h⟩
  | succ n ih =>
  obtain ⟨ih, ih2⟩ := ih
  refine ⟨?_, ?_⟩
  · intro x0 x1 ds us h K q
    rw [R11] at h
    exact AtV.runN tabOk ext11Ok mixed (p11_0 x0 x1) trivial (ih2 _ _ _ _ _ h K q)

  · intro v5 x1 x0 ds us h K q
    rw [R11_2] at h
    by_cases b0 : (Decidable.decide (v5 < (↑(List.length x0) : Int))) = true
    · rw [if_pos b0] at h
      obtain ⟨s0, s1, h⟩ := h
      obtain ⟨s2, h⟩ := h
      obtain ⟨s3, h⟩ := h
      exact AtV.runN tabOk ext11Ok mixed (p11_1 v5 x1 x0) ⟨b0, trivial, s0, s1, s2, s3, trivial⟩ (ih2 _ _ _ _ _ h K q)
    · rw [if_neg b0] at h
      replace b0 := Bool.eq_false_iff.2 b0
      obtain ⟨h, h'⟩ := h; subst h; subst h'
      exact AtV.fin Tryd.func11 tabOk ext11Ok mixed (p11_2 v5 x1 x0) ⟨b0, trivial⟩



def M11 (x1 : Int) (n : Nat) : List ByteArray := (List.range n).map fun (j : Nat) => g25_0 (x1 + (j : Int))

theorem M11_len (x1 : Int) (n : Nat) : (M11 x1 n).length = n := by simp [M11]

theorem M11_step (x1 : Int) (x0 : List ByteArray) (i : Nat) (h : i < x0.length) : (M11 x1 i ++ x0.drop i).set i (g25_0 (x1 + (i : Int))) = M11 x1 (i + 1) ++ x0.drop (i + 1) := by
  rw [List.set_append_right _ _ (by rw [M11_len]; exact Nat.le_refl _), M11_len, Nat.sub_self, List.drop_eq_getElem_cons h, List.set_cons_zero]
  simp [M11, List.range_succ]

theorem run11 (x0 : List ByteArray) (x1 : Int) (hm : x0.length ≤ maxLen) (h0 : 0 ≤ x1) (h1 : x1 + x0.length ≤ 9223372036854775807) : ∀ (k i : Nat), i + k = x0.length →
    R11_2 (k + 1) (i : Int) (x1 + (i : Int)) (M11 x1 i ++ x0.drop i) [⟨.int .i64, x1 + (x0.length : Int)⟩] [some ⟨.str, M11 x1 x0.length⟩] := by
  intro k
  induction k with
  | zero =>
    intro i hi
    have hl : (M11 x1 i ++ x0.drop i).length = x0.length := by simp [M11_len]; omega
    rw [R11_2, if_neg (by rw [hl]; simp; omega), drop_end x0 i (by omega), List.append_nil]
    have : i = x0.length := by omega
    subst this
    exact ⟨rfl, rfl⟩
  | succ k ih =>
    intro i hi
    have hl : (M11 x1 i ++ x0.drop i).length = x0.length := by simp [M11_len]; omega
    rw [R11_2, if_pos (by rw [hl]; simp; omega), hl]
    simp only [Int.toNat_natCast]
    refine ⟨by omega, by omega, by rw [i64_iff]; omega, inR_up hm (by omega), ?_⟩
    rw [M11_step x1 x0 i (by omega), Int.add_assoc]
    exact ih (i + 1) (by omega)

def P11 (x0 : List ByteArray) (x1 : Int) : Prop := 0 ≤ x1 ∧ x1 + x0.length ≤ 9223372036854775807
def g11_0 (x0 : List ByteArray) (x1 : Int) : Int := x1 + (x0.length : Int)
def u11_0 (x0 : List ByteArray) (x1 : Int) : List ByteArray := M11 x1 x0.length

theorem top11 (x0 : List ByteArray) (x1 : Int) (hm : x0.length ≤ maxLen) (h : P11 x0 x1) : R11 (x0.length + 1 + 1) x0 x1 [⟨.int .i64, g11_0 x0 x1⟩] [some ⟨.str, u11_0 x0 x1⟩] := by
  rw [R11]
  have := run11 x0 x1 hm h.1 h.2 x0.length 0 (by omega)
  simpa [M11, g11_0, u11_0] using this

def S11 : Am.Spec := { sig := sig11, pre := fun ⟨x0, x1, _⟩ => P11 x0 x1, upd := fun ⟨x0, x1, _⟩ => [some ⟨.str, u11_0 x0 x1⟩], res := fun ⟨x0, x1, _⟩ => [⟨.int .i64, g11_0 x0 x1⟩] }
theorem con11 : Contract Tryd.prog 11 S11 := contract_of Tryd.func11 hb11 (Nat.le_of_ble_eq_true (by kernel_rfl)) (fun ⟨x0, x1, _⟩ h hwf K q =>
  (snd11 _).1 x0 x1 _ _ (top11 x0 x1 hwf.1.1 h) K q)

end
end Go.Proofs.YtpledggbnnjbiaaDoor

/- Function 12 (laws.heldStringS): its runs between cut points. Written by a program of this repo (gen). -/
set_option linter.unusedVariables false
set_option linter.unusedSimpArgs false
set_option maxRecDepth 100000
namespace Go.Proofs.YtpledggbnnjbiaaDoor
open Go Go.Am Go.Proofs
noncomputable section
def ext12 : Ext := [(25, S25)]
theorem call12_25 : Callable Tryd.prog 25 := ⟨Tryd.f25, Tryd.func25, by kernel_rfl, by kernel_rfl⟩
theorem ext12Ok : ExtOk Tryd.prog ext12 := ⟨⟨call12_25, con25⟩, trivial⟩

noncomputable def b12 : Code := bodyOf Tryd.f12
theorem hb12 : Tryd.f12.body = some b12 := by kernel_rfl
def sig12 : List AT := [AT.v (Ty.sl Ty.str), AT.v (Ty.int IntKind.i64)]
def tys12 : List Ty := [Ty.int IntKind.i64]
def kds12 : List RK := []
def oks12 : List AT := owns sig12
def E12_2 (v5 : Int) (x0 : List ByteArray) (x1 : Int) : Env := [(0, PV.a (Atom.sl Ty.str x0)), (1, PV.a (Atom.val (Value.int IntKind.i64 x1))), (5, PV.a (Atom.val (Value.int IntKind.i64 v5)))]
def L12_2 (v5 : Int) (x0 : List ByteArray) (x1 : Int) : Heap := []
mutual
def R12 : Nat → List ByteArray → Int → List Dyn → Prop
  | 0, _, _, _ => False
  | n + 1, x0, x1, ds => (R12_2 n (0) (x0) (x1) ds)
def R12_2 : Nat → Int → List ByteArray → Int → List Dyn → Prop
  | 0, _, _, _, _ => False
  | n + 1, v5, x0, x1, ds => (if (Decidable.decide (v5 < (↑(List.length x0) : Int))) = true then ((0 ≤ v5) ∧ (v5 < (↑(List.length x0) : Int)) ∧ (if (!ByteArray.toList (List.getD x0 (Int.toNat v5) ByteArray.empty) == ByteArray.toList (g25_0 x1)) = true then (ds = [Dyn.mk (Ty.int IntKind.i64) (-1)]) else ((InR IntKind.i64 (x1 + 1)) ∧ ((InR IntKind.i64 (v5 + 1)) ∧ (R12_2 n (v5 + 1) (x0) (x1 + 1) ds))))) else (ds = [Dyn.mk (Ty.int IntKind.i64) x1]))
end
theorem p12_0 (x0 : List ByteArray) (x1 : Int) : Am.runN tab ext12 false 22 [] 2000 [] [] [0, 1, 5] [] [] [.code b12] (entE 0 0 sig12 (x0, x1, ())) (entL sig12 (x0, x1, ())) = some (cutAt b12 2, E12_2 (0) (x0) (x1), L12_2 (0) (x0) (x1), []) := by kernel_rfl
theorem p12_1 (v5 : Int) (x0 : List ByteArray) (x1 : Int) : runF tab ext12 false 22 [] 2000 [] oks12 kds12 tys12 Tryd.f12.results [true, true] (cutAt b12 2) (E12_2 v5 x0 x1) (L12_2 v5 x0 x1) = some ([Dyn.mk (Ty.int IntKind.i64) (-1)], [], [Decidable.decide (v5 < (↑(List.length x0) : Int)) = Bool.true, 0 ≤ v5, v5 < (↑(List.length x0) : Int), True, (!ByteArray.toList (List.getD x0 (Int.toNat v5) ByteArray.empty) == ByteArray.toList (g25_0 x1)) = Bool.true]) := by kernel_rfl
theorem p12_2 (v5 : Int) (x0 : List ByteArray) (x1 : Int) : Am.runN tab ext12 false 22 [] 2000 [] [] [0, 1, 5] [] [true, false] (cutAt b12 2) (E12_2 v5 x0 x1) (L12_2 v5 x0 x1) = some (cutAt b12 2, E12_2 (v5 + 1) (x0) (x1 + 1), L12_2 (v5 + 1) (x0) (x1 + 1), [Decidable.decide (v5 < (↑(List.length x0) : Int)) = Bool.true, 0 ≤ v5, v5 < (↑(List.length x0) : Int), True, (!ByteArray.toList (List.getD x0 (Int.toNat v5) ByteArray.empty) == ByteArray.toList (g25_0 x1)) = Bool.false, InR IntKind.i64 (x1 + 1), InR IntKind.i64 (v5 + 1)]) := by kernel_rfl
theorem p12_3 (v5 : Int) (x0 : List ByteArray) (x1 : Int) : runF tab ext12 false 22 [] 2000 [] oks12 kds12 tys12 Tryd.f12.results [false] (cutAt b12 2) (E12_2 v5 x0 x1) (L12_2 v5 x0 x1) = some ([Dyn.mk (Ty.int IntKind.i64) x1], [], [Decidable.decide (v5 < (↑(List.length x0) : Int)) = Bool.false]) := by kernel_rfl
theorem snd12 : ∀ n, (∀ (x0 : List ByteArray) (x1 : Int) ds, R12 n x0 x1 ds → ∀ K q, AtV Tryd.prog 12 (PostR kds12 oks12 ds [] [] q K) 22 K q [] [.code b12] (entE 0 0 sig12 (x0, x1, ())) (entL sig12 (x0, x1, ()))) ∧ (∀ (v5 : Int) (x0 : List ByteArray) (x1 : Int) ds, R12_2 n v5 x0 x1 ds → ∀ K q, AtV Tryd.prog 12 (PostR kds12 oks12 ds [] [] q K) 22 K q [] (cutAt b12 2) (E12_2 v5 x0 x1) (L12_2 v5 x0 x1)) := by
  intro n
  induction n with
  | zero => exact ⟨fun _ _ _ h => by simp only [R12] at h, fun _ _ _ _ h => by simp only [R12_2] at h⟩
  | succ n ih =>
  obtain ⟨ih, ih2⟩ := ih
  refine ⟨?_, ?_⟩
  · intro x0 x1 ds h K q
    rw [R12] at h
    exact AtV.runN tabOk ext12Ok mixed (p12_0 x0 x1) trivial (ih2 _ _ _ _ h K q)

  · intro v5 x0 x1 ds h K q
    rw [R12_2] at h
    by_cases b0 : (Decidable.decide (v5 < (↑(List.length x0) : Int))) = true
    · rw [if_pos b0] at h
      obtain ⟨s0, s1, h⟩ := h
      by_cases b1 : (!ByteArray.toList (List.getD x0 (Int.toNat v5) ByteArray.empty) == ByteArray.toList (g25_0 x1)) = true
      · rw [if_pos b1] at h
        subst h
        exact AtV.fin Tryd.func12 tabOk ext12Ok mixed (p12_1 v5 x0 x1) ⟨b0, s0, s1, trivial, b1, trivial⟩
      · rw [if_neg b1] at h
        replace b1 := Bool.eq_false_iff.2 b1
        obtain ⟨s2, h⟩ := h
        obtain ⟨s3, h⟩ := h
        exact AtV.runN tabOk ext12Ok mixed (p12_2 v5 x0 x1) ⟨b0, s0, s1, trivial, b1, s2, s3, trivial⟩ (ih2 _ _ _ _ h K q)
    · rw [if_neg b0] at h
      replace b0 := Bool.eq_false_iff.2 b0
      subst h
      exact AtV.fin Tryd.func12 tabOk ext12Ok mixed (p12_3 v5 x0 x1) ⟨b0, trivial⟩



theorem run12 (x0 : List ByteArray) (x1 : Int) (hm : x0.length ≤ maxLen) (h0 : 0 ≤ x1) (h1 : x1 + x0.length ≤ 9223372036854775807) (he : ∀ i : Nat, i < x0.length → x0.getD i ByteArray.empty = g25_0 (x1 + (i : Int))) : ∀ (k i : Nat), i + k = x0.length →
    R12_2 (k + 1) (i : Int) x0 (x1 + (i : Int)) [⟨.int .i64, x1 + (x0.length : Int)⟩] := by
  intro k
  induction k with
  | zero =>
    intro i hi
    rw [R12_2, if_neg (by simp; omega)]
    have : i = x0.length := by omega
    subst this
    rfl
  | succ k ih =>
    intro i hi
    rw [R12_2, if_pos (by simp; omega)]
    simp only [Int.toNat_natCast]
    have hb := (bytes_eq _ _).2 (he i (by omega))
    refine ⟨by omega, by omega, ?_⟩
    rw [if_neg (by rw [hb]; simp)]
    refine ⟨by rw [i64_iff]; omega, inR_up hm (by omega), ?_⟩
    rw [Int.add_assoc]
    exact ih (i + 1) (by omega)

def P12 (x0 : List ByteArray) (x1 : Int) : Prop := (0 ≤ x1 ∧ x1 + x0.length ≤ 9223372036854775807) ∧ ∀ i : Nat, i < x0.length → x0.getD i ByteArray.empty = g25_0 (x1 + (i : Int))
def g12_0 (x0 : List ByteArray) (x1 : Int) : Int := x1 + (x0.length : Int)

theorem top12 (x0 : List ByteArray) (x1 : Int) (hm : x0.length ≤ maxLen) (h : P12 x0 x1) : R12 (x0.length + 1 + 1) x0 x1 [⟨.int .i64, g12_0 x0 x1⟩] := by
  rw [R12]
  have := run12 x0 x1 hm h.1.1 h.1.2 h.2 x0.length 0 (by omega)
  simpa [g12_0] using this

def S12 : Am.Spec := { sig := sig12, pre := fun ⟨x0, x1, _⟩ => P12 x0 x1, res := fun ⟨x0, x1, _⟩ => [⟨.int .i64, g12_0 x0 x1⟩] }
theorem con12 : Contract Tryd.prog 12 S12 := contract_of Tryd.func12 hb12 (Nat.le_of_ble_eq_true (by kernel_rfl)) (fun ⟨x0, x1, _⟩ h hwf K q =>
  (snd12 _).1 x0 x1 _ (top12 x0 x1 hwf.1.1 h) K q)

end
end Go.Proofs.YtpledggbnnjbiaaDoor

/- Function 3 (laws.FnExactFareReport): its runs between cut points. Written by a program of this repo (gen). -/
set_option linter.unusedVariables false
set_option linter.unusedSimpArgs false
set_option maxRecDepth 100000
namespace Go.Proofs.YtpledggbnnjbiaaDoor
open Go Go.Am Go.Proofs
noncomputable section
def ext3 : Ext := [(4, S4), (6, S6), (5, S5), (7, S7), (8, S8), (9, S9), (10, S10), (11, S11), (12, S12)]
theorem call3_4 : Callable Tryd.prog 4 := ⟨Tryd.f4, Tryd.func4, by kernel_rfl, by kernel_rfl⟩
theorem call3_6 : Callable Tryd.prog 6 := ⟨Tryd.f6, Tryd.func6, by kernel_rfl, by kernel_rfl⟩
theorem call3_5 : Callable Tryd.prog 5 := ⟨Tryd.f5, Tryd.func5, by kernel_rfl, by kernel_rfl⟩
theorem call3_7 : Callable Tryd.prog 7 := ⟨Tryd.f7, Tryd.func7, by kernel_rfl, by kernel_rfl⟩
theorem call3_8 : Callable Tryd.prog 8 := ⟨Tryd.f8, Tryd.func8, by kernel_rfl, by kernel_rfl⟩
theorem call3_9 : Callable Tryd.prog 9 := ⟨Tryd.f9, Tryd.func9, by kernel_rfl, by kernel_rfl⟩
theorem call3_10 : Callable Tryd.prog 10 := ⟨Tryd.f10, Tryd.func10, by kernel_rfl, by kernel_rfl⟩
theorem call3_11 : Callable Tryd.prog 11 := ⟨Tryd.f11, Tryd.func11, by kernel_rfl, by kernel_rfl⟩
theorem call3_12 : Callable Tryd.prog 12 := ⟨Tryd.f12, Tryd.func12, by kernel_rfl, by kernel_rfl⟩
theorem ext3Ok : ExtOk Tryd.prog ext3 := ⟨⟨call3_4, con4⟩, ⟨call3_6, con6⟩, ⟨call3_5, con5⟩, ⟨call3_7, con7⟩, ⟨call3_8, con8⟩, ⟨call3_9, con9⟩, ⟨call3_10, con10⟩, ⟨call3_11, con11⟩, ⟨call3_12, con12⟩, trivial⟩

noncomputable def b3 : Code := bodyOf Tryd.f3
theorem hb3 : Tryd.f3.body = some b3 := by kernel_rfl
def sig3 : List AT := [AT.v (Ty.sl (Ty.cons Ty.str (Ty.cons (Ty.int IntKind.i64) (Ty.cons (Ty.int IntKind.i64) (Ty.cons (Ty.int IntKind.i64) Ty.unit)))))]
def tys3 : List Ty := [Ty.bool]
def kds3 : List RK := []
def oks3 : List AT := owns sig3
def P3 (x0 : List (ByteArray × Int × Int × Int × Unit)) : Prop := ((P4 x0 1048576) ∧ (if (Decidable.decide (g4_0 x0 1048576 < 0)) = true then True else ((P6 x0) ∧ ((P5 (g6_0 x0)) ∧ ((P6 x0) ∧ ((P7 (g6_0 x0)) ∧ (if (!g8_0 (g7_0 (g6_0 x0)) (g5_0 (g6_0 x0))) = true then True else (if (g7_1 (g6_0 x0) != g5_1 (g6_0 x0)) = true then True else ((P6 x0) ∧ (if (!g9_0 (g6_0 x0) (g6_0 x0)) = true then True else ((P10 (g6_0 x0) 1) ∧ (List.length (u10_0 (g6_0 x0) 1) = List.length (g6_0 x0)) ∧ (if (Decidable.decide (g10_0 (g6_0 x0) 1 < 0)) = true then True else ((P11 (g7_0 (g6_0 x0)) 1) ∧ (List.length (u11_0 (g7_0 (g6_0 x0)) 1) = List.length (g7_0 (g6_0 x0))) ∧ ((P12 (u11_0 (g7_0 (g6_0 x0)) 1) 1) ∧ (if (Decidable.decide (g12_0 (u11_0 (g7_0 (g6_0 x0)) 1) 1 < 0)) = true then True else (if (g12_0 (u11_0 (g7_0 (g6_0 x0)) 1) 1 != g11_0 (g7_0 (g6_0 x0)) 1) = true then True else ((P6 x0) ∧ ((P7 (g6_0 x0)) ∧ ((P12 (u11_0 (g7_0 (g6_0 x0)) 1) 1) ∧ True)))))))))))))))))))
def g3_0 (x0 : List (ByteArray × Int × Int × Int × Unit)) : Bool := (if (Decidable.decide (g4_0 x0 1048576 < 0)) = true then Bool.true else (if (!g8_0 (g7_0 (g6_0 x0)) (g5_0 (g6_0 x0))) = true then Bool.false else (if (g7_1 (g6_0 x0) != g5_1 (g6_0 x0)) = true then Bool.false else (if (!g9_0 (g6_0 x0) (g6_0 x0)) = true then Bool.false else (if (Decidable.decide (g10_0 (g6_0 x0) 1 < 0)) = true then Bool.false else (if (Decidable.decide (g12_0 (u11_0 (g7_0 (g6_0 x0)) 1) 1 < 0)) = true then Bool.false else (if (g12_0 (u11_0 (g7_0 (g6_0 x0)) 1) 1 != g11_0 (g7_0 (g6_0 x0)) 1) = true then Bool.false else Bool.true)))))))
theorem p3_0 (x0 : List (ByteArray × Int × Int × Int × Unit)) : runF tab ext3 false 96 [] 2000 [] oks3 kds3 tys3 Tryd.f3.results [true] [.code b3] (entE 0 0 sig3 (x0, ())) (entL sig3 (x0, ())) = some ([Dyn.mk Ty.bool Bool.true], [], [P4 x0 1048576, Decidable.decide (g4_0 x0 1048576 < 0) = Bool.true]) := by kernel_rfl
theorem p3_1 (x0 : List (ByteArray × Int × Int × Int × Unit)) : runF tab ext3 false 96 [] 2000 [] oks3 kds3 tys3 Tryd.f3.results [false, true, true] [.code b3] (entE 0 0 sig3 (x0, ())) (entL sig3 (x0, ())) = some ([Dyn.mk Ty.bool Bool.false], [], [P4 x0 1048576, Decidable.decide (g4_0 x0 1048576 < 0) = Bool.false, P6 x0, P5 (g6_0 x0), P6 x0, P7 (g6_0 x0), True, (!g8_0 (g7_0 (g6_0 x0)) (g5_0 (g6_0 x0))) = Bool.true, Bool.true = Bool.true]) := by kernel_rfl
theorem p3_2 (x0 : List (ByteArray × Int × Int × Int × Unit)) : runF tab ext3 false 96 [] 2000 [] oks3 kds3 tys3 Tryd.f3.results [false, false, true] [.code b3] (entE 0 0 sig3 (x0, ())) (entL sig3 (x0, ())) = some ([Dyn.mk Ty.bool Bool.false], [], [P4 x0 1048576, Decidable.decide (g4_0 x0 1048576 < 0) = Bool.false, P6 x0, P5 (g6_0 x0), P6 x0, P7 (g6_0 x0), True, (!g8_0 (g7_0 (g6_0 x0)) (g5_0 (g6_0 x0))) = Bool.false, (g7_1 (g6_0 x0) != g5_1 (g6_0 x0)) = Bool.true]) := by kernel_rfl
theorem p3_3 (x0 : List (ByteArray × Int × Int × Int × Unit)) : runF tab ext3 false 96 [] 2000 [] oks3 kds3 tys3 Tryd.f3.results [false, false, false, true] [.code b3] (entE 0 0 sig3 (x0, ())) (entL sig3 (x0, ())) = some ([Dyn.mk Ty.bool Bool.false], [], [P4 x0 1048576, Decidable.decide (g4_0 x0 1048576 < 0) = Bool.false, P6 x0, P5 (g6_0 x0), P6 x0, P7 (g6_0 x0), True, (!g8_0 (g7_0 (g6_0 x0)) (g5_0 (g6_0 x0))) = Bool.false, (g7_1 (g6_0 x0) != g5_1 (g6_0 x0)) = Bool.false, P6 x0, True, (!g9_0 (g6_0 x0) (g6_0 x0)) = Bool.true]) := by kernel_rfl
theorem p3_4 (x0 : List (ByteArray × Int × Int × Int × Unit)) : runF tab ext3 false 96 [] 2000 [] oks3 kds3 tys3 Tryd.f3.results [false, false, false, false, true, true, true] [.code b3] (entE 0 0 sig3 (x0, ())) (entL sig3 (x0, ())) = some ([Dyn.mk Ty.bool Bool.false], [], [P4 x0 1048576, Decidable.decide (g4_0 x0 1048576 < 0) = Bool.false, P6 x0, P5 (g6_0 x0), P6 x0, P7 (g6_0 x0), True, (!g8_0 (g7_0 (g6_0 x0)) (g5_0 (g6_0 x0))) = Bool.false, (g7_1 (g6_0 x0) != g5_1 (g6_0 x0)) = Bool.false, P6 x0, True, (!g9_0 (g6_0 x0) (g6_0 x0)) = Bool.false, P10 (g6_0 x0) 1, List.length (u10_0 (g6_0 x0) 1) = List.length (g6_0 x0), Decidable.decide (g10_0 (g6_0 x0) 1 < 0) = Bool.true, Bool.true = Bool.true, Bool.true = Bool.true]) := by kernel_rfl
theorem p3_5 (x0 : List (ByteArray × Int × Int × Int × Unit)) : runF tab ext3 false 96 [] 2000 [] oks3 kds3 tys3 Tryd.f3.results [false, false, false, false, false, false, false, true] [.code b3] (entE 0 0 sig3 (x0, ())) (entL sig3 (x0, ())) = some ([Dyn.mk Ty.bool Bool.false], [], [P4 x0 1048576, Decidable.decide (g4_0 x0 1048576 < 0) = Bool.false, P6 x0, P5 (g6_0 x0), P6 x0, P7 (g6_0 x0), True, (!g8_0 (g7_0 (g6_0 x0)) (g5_0 (g6_0 x0))) = Bool.false, (g7_1 (g6_0 x0) != g5_1 (g6_0 x0)) = Bool.false, P6 x0, True, (!g9_0 (g6_0 x0) (g6_0 x0)) = Bool.false, P10 (g6_0 x0) 1, List.length (u10_0 (g6_0 x0) 1) = List.length (g6_0 x0), Decidable.decide (g10_0 (g6_0 x0) 1 < 0) = Bool.false, True, (!g8_0 (g7_0 (g6_0 x0)) (g5_0 (g6_0 x0))) = Bool.false, (g7_1 (g6_0 x0) != g5_1 (g6_0 x0)) = Bool.false, P11 (g7_0 (g6_0 x0)) 1, List.length (u11_0 (g7_0 (g6_0 x0)) 1) = List.length (g7_0 (g6_0 x0)), P12 (u11_0 (g7_0 (g6_0 x0)) 1) 1, Decidable.decide (g12_0 (u11_0 (g7_0 (g6_0 x0)) 1) 1 < 0) = Bool.true]) := by kernel_rfl
theorem p3_6 (x0 : List (ByteArray × Int × Int × Int × Unit)) : runF tab ext3 false 96 [] 2000 [] oks3 kds3 tys3 Tryd.f3.results [false, false, false, false, false, false, false, false, true] [.code b3] (entE 0 0 sig3 (x0, ())) (entL sig3 (x0, ())) = some ([Dyn.mk Ty.bool Bool.false], [], [P4 x0 1048576, Decidable.decide (g4_0 x0 1048576 < 0) = Bool.false, P6 x0, P5 (g6_0 x0), P6 x0, P7 (g6_0 x0), True, (!g8_0 (g7_0 (g6_0 x0)) (g5_0 (g6_0 x0))) = Bool.false, (g7_1 (g6_0 x0) != g5_1 (g6_0 x0)) = Bool.false, P6 x0, True, (!g9_0 (g6_0 x0) (g6_0 x0)) = Bool.false, P10 (g6_0 x0) 1, List.length (u10_0 (g6_0 x0) 1) = List.length (g6_0 x0), Decidable.decide (g10_0 (g6_0 x0) 1 < 0) = Bool.false, True, (!g8_0 (g7_0 (g6_0 x0)) (g5_0 (g6_0 x0))) = Bool.false, (g7_1 (g6_0 x0) != g5_1 (g6_0 x0)) = Bool.false, P11 (g7_0 (g6_0 x0)) 1, List.length (u11_0 (g7_0 (g6_0 x0)) 1) = List.length (g7_0 (g6_0 x0)), P12 (u11_0 (g7_0 (g6_0 x0)) 1) 1, Decidable.decide (g12_0 (u11_0 (g7_0 (g6_0 x0)) 1) 1 < 0) = Bool.false, (g12_0 (u11_0 (g7_0 (g6_0 x0)) 1) 1 != g11_0 (g7_0 (g6_0 x0)) 1) = Bool.true]) := by kernel_rfl
theorem p3_7 (x0 : List (ByteArray × Int × Int × Int × Unit)) : runF tab ext3 false 96 [] 2000 [] oks3 kds3 tys3 Tryd.f3.results [false, false, false, false, false, false, false, false, false, false, false, false, false] [.code b3] (entE 0 0 sig3 (x0, ())) (entL sig3 (x0, ())) = some ([Dyn.mk Ty.bool Bool.true], [], [P4 x0 1048576, Decidable.decide (g4_0 x0 1048576 < 0) = Bool.false, P6 x0, P5 (g6_0 x0), P6 x0, P7 (g6_0 x0), True, (!g8_0 (g7_0 (g6_0 x0)) (g5_0 (g6_0 x0))) = Bool.false, (g7_1 (g6_0 x0) != g5_1 (g6_0 x0)) = Bool.false, P6 x0, True, (!g9_0 (g6_0 x0) (g6_0 x0)) = Bool.false, P10 (g6_0 x0) 1, List.length (u10_0 (g6_0 x0) 1) = List.length (g6_0 x0), Decidable.decide (g10_0 (g6_0 x0) 1 < 0) = Bool.false, True, (!g8_0 (g7_0 (g6_0 x0)) (g5_0 (g6_0 x0))) = Bool.false, (g7_1 (g6_0 x0) != g5_1 (g6_0 x0)) = Bool.false, P11 (g7_0 (g6_0 x0)) 1, List.length (u11_0 (g7_0 (g6_0 x0)) 1) = List.length (g7_0 (g6_0 x0)), P12 (u11_0 (g7_0 (g6_0 x0)) 1) 1, Decidable.decide (g12_0 (u11_0 (g7_0 (g6_0 x0)) 1) 1 < 0) = Bool.false, (g12_0 (u11_0 (g7_0 (g6_0 x0)) 1) 1 != g11_0 (g7_0 (g6_0 x0)) 1) = Bool.false, P6 x0, P7 (g6_0 x0), True, (!g8_0 (g7_0 (g6_0 x0)) (g5_0 (g6_0 x0))) = Bool.false, (g7_1 (g6_0 x0) != g5_1 (g6_0 x0)) = Bool.false, P12 (u11_0 (g7_0 (g6_0 x0)) 1) 1, Decidable.decide (g12_0 (u11_0 (g7_0 (g6_0 x0)) 1) 1 < 0) = Bool.false, (g12_0 (u11_0 (g7_0 (g6_0 x0)) 1) 1 != g11_0 (g7_0 (g6_0 x0)) 1) = Bool.false]) := by kernel_rfl
theorem at3 (x0 : List (ByteArray × Int × Int × Int × Unit)) (h : P3 x0) (K : Ctx) (q : Nat → Value) : AtV Tryd.prog 3 (PostR kds3 oks3 [⟨Ty.bool, g3_0 x0⟩] [] [] q K) 96 K q [] [.code b3] (entE 0 0 sig3 (x0, ())) (entL sig3 (x0, ())) := by
  unfold P3 at h
  unfold g3_0
  obtain ⟨s0, h⟩ := h
  by_cases b0 : (Decidable.decide (g4_0 x0 1048576 < 0)) = true
  · try simp only [if_pos b0] at h ⊢
    exact AtV.fin Tryd.func3 tabOk ext3Ok mixed (p3_0 x0) ⟨s0, b0, trivial⟩
  · try simp only [if_neg b0] at h ⊢
    replace b0 := Bool.eq_false_iff.2 b0
    obtain ⟨s1, h⟩ := h
    obtain ⟨s2, h⟩ := h
    obtain ⟨s3, h⟩ := h
    obtain ⟨s4, h⟩ := h
    by_cases b1 : (!g8_0 (g7_0 (g6_0 x0)) (g5_0 (g6_0 x0))) = true
    · try simp only [if_pos b1] at h ⊢
      exact AtV.fin Tryd.func3 tabOk ext3Ok mixed (p3_1 x0) ⟨s0, b0, s1, s2, s3, s4, trivial, b1, rfl, trivial⟩
    · try simp only [if_neg b1] at h ⊢
      replace b1 := Bool.eq_false_iff.2 b1
      by_cases b2 : (g7_1 (g6_0 x0) != g5_1 (g6_0 x0)) = true
      · try simp only [if_pos b2] at h ⊢
        exact AtV.fin Tryd.func3 tabOk ext3Ok mixed (p3_2 x0) ⟨s0, b0, s1, s2, s3, s4, trivial, b1, b2, trivial⟩
      · try simp only [if_neg b2] at h ⊢
        replace b2 := Bool.eq_false_iff.2 b2
        obtain ⟨s5, h⟩ := h
        by_cases b3 : (!g9_0 (g6_0 x0) (g6_0 x0)) = true
        · try simp only [if_pos b3] at h ⊢
          exact AtV.fin Tryd.func3 tabOk ext3Ok mixed (p3_3 x0) ⟨s0, b0, s1, s2, s3, s4, trivial, b1, b2, s5, trivial, b3, trivial⟩
        · try simp only [if_neg b3] at h ⊢
          replace b3 := Bool.eq_false_iff.2 b3
          obtain ⟨s6, s7, h⟩ := h
          by_cases b4 : (Decidable.decide (g10_0 (g6_0 x0) 1 < 0)) = true
          · try simp only [if_pos b4] at h ⊢
            exact AtV.fin Tryd.func3 tabOk ext3Ok mixed (p3_4 x0) ⟨s0, b0, s1, s2, s3, s4, trivial, b1, b2, s5, trivial, b3, s6, s7, b4, rfl, rfl, trivial⟩
          · try simp only [if_neg b4] at h ⊢
            replace b4 := Bool.eq_false_iff.2 b4
            obtain ⟨s8, s9, h⟩ := h
            obtain ⟨s10, h⟩ := h
            by_cases b5 : (Decidable.decide (g12_0 (u11_0 (g7_0 (g6_0 x0)) 1) 1 < 0)) = true
            · try simp only [if_pos b5] at h ⊢
              exact AtV.fin Tryd.func3 tabOk ext3Ok mixed (p3_5 x0) ⟨s0, b0, s1, s2, s3, s4, trivial, b1, b2, s5, trivial, b3, s6, s7, b4, trivial, b1, b2, s8, s9, s10, b5, trivial⟩
            · try simp only [if_neg b5] at h ⊢
              replace b5 := Bool.eq_false_iff.2 b5
              by_cases b6 : (g12_0 (u11_0 (g7_0 (g6_0 x0)) 1) 1 != g11_0 (g7_0 (g6_0 x0)) 1) = true
              · try simp only [if_pos b6] at h ⊢
                exact AtV.fin Tryd.func3 tabOk ext3Ok mixed (p3_6 x0) ⟨s0, b0, s1, s2, s3, s4, trivial, b1, b2, s5, trivial, b3, s6, s7, b4, trivial, b1, b2, s8, s9, s10, b5, b6, trivial⟩
              · try simp only [if_neg b6] at h ⊢
                replace b6 := Bool.eq_false_iff.2 b6
                obtain ⟨s11, h⟩ := h
                obtain ⟨s12, h⟩ := h
                obtain ⟨s13, h⟩ := h
                exact AtV.fin Tryd.func3 tabOk ext3Ok mixed (p3_7 x0) ⟨s0, b0, s1, s2, s3, s4, trivial, b1, b2, s5, trivial, b3, s6, s7, b4, trivial, b1, b2, s8, s9, s10, b5, b6, s11, s12, trivial, b1, b2, s13, b5, b6, trivial⟩

def S3 : Am.Spec := { sig := sig3, pre := fun ⟨x0, _⟩ => P3 x0, res := fun ⟨x0, _⟩ => [⟨Ty.bool, g3_0 x0⟩], kds := kds3 }
theorem con3 : Contract Tryd.prog 3 S3 := contract_of Tryd.func3 hb3 (Nat.le_of_ble_eq_true (by kernel_rfl)) (fun ⟨x0, _⟩ h _ K q => at3 x0 h K q)


end
end Go.Proofs.YtpledggbnnjbiaaDoor

/- A law that says how functions of the program and of the specification hang together. -/
set_option linter.unusedVariables false
set_option linter.unusedSimpArgs false
set_option maxRecDepth 100000
namespace Go.Proofs.YtpledggbnnjbiaaDoor
open Go Go.Am Go.Proofs

theorem reportLine (s : ByteArray) : g79_0 s = g43_0 s := by
  unfold g79_0 g49c90_0 g43_0
  rw [any69c90]
  have hq : (!(bytesOf s).any g90_0) = (bytesOf s).all ok43 := by
    rw [List.not_any_eq_all_not]
    congr 1
    funext b
    simp only [g90_0, ok43]
    by_cases h1 : b < 32 <;> by_cases h2 : b > 126 <;> simp [h1, h2] <;> omega
  rw [hq]
  by_cases h : ((s.size : Nat) : Int) ≤ 100
  · have h' : s.size ≤ 100 := by omega
    simp [h, h']
  · have h' : ¬ s.size ≤ 100 := by omega
    simp [h, h']

theorem report (x : List ByteArray) : g61_0 x = g28_0 x := by
  unfold g61_0 g28_0 g47c78_0
  rw [any68c78]
  have hq : (!x.any g78_0) = x.all g43_0 := by
    rw [List.not_any_eq_all_not]
    congr 1
    funext b
    simp only [g78_0, reportLine, Bool.not_not]
  rw [hq]
  by_cases h : ((x.length : Nat) : Int) ≤ 200
  · have h' : x.length ≤ 200 := by omega
    simp [h, h']
  · have h' : ¬ x.length ≤ 200 := by omega
    simp [h, h']

end Go.Proofs.YtpledggbnnjbiaaDoor

/- A law that says how functions of the program and of the specification hang together. -/
set_option linter.unusedVariables false
set_option linter.unusedSimpArgs false
set_option maxRecDepth 100000
namespace Go.Proofs.YtpledggbnnjbiaaDoor
open Go Go.Am Go.Proofs

theorem set_same : ∀ (h : List Int) (k : Nat), h.set k (h.getD k 0) = h
  | [], _ => rfl
  | a :: l, 0 => rfl
  | a :: l, k + 1 => by
    show a :: l.set k (l.getD k 0) = a :: l
    rw [set_same l k]

theorem row_eq : ∀ (r : List ByteArray) (k : Nat) (h : List Int), row23 k r h = row18 k r h
  | [], _, _ => rfl
  | c :: r, k, h => by
    have e : up23 h k c = if ((c.size : Nat) : Int) > h.getD k 0 then h.set k (c.size : Nat) else h := by
      unfold up23
      by_cases h1 : h.getD k 0 < ((c.size : Nat) : Int)
      · rw [if_pos h1, if_pos h1]
      · rw [if_neg h1, if_neg h1, set_same]
    show row23 (k + 1) r (up23 h k c) = row18 (k + 1) r _
    rw [e, row_eq]

theorem wide_eq (x : List (List ByteArray)) : wide23 x = wide18 x := by
  unfold wide23 wide18
  congr 1
  funext h r
  exact row_eq r 0 h

theorem wd_bytes (h : List Int) (k : Nat) (c : ByteArray) : (wd23 h k c).data.toList = c.data.toList ++ spc18 (h.getD k 0 - (c.size : Nat)).toNat := by
  have e : (ByteArray.mk #[32]).data.toList = List.replicate 1 32 := rfl
  unfold wd23 g37_0 spc18
  rw [e, Lib.repeatL_replicate, Nat.mul_one]
  simp [ByteArray.data_append]

theorem ln_tail : ∀ (r : List ByteArray) (k : Nat) (h : List Int) (v : List UInt8), 0 < k → ln18 k r h v = v ++ Lib.joinTail [32, 32] ((words23 h k r).map fun x => x.data.toList)
  | [], k, h, v, _ => by simp [ln18, words23, Lib.joinTail]
  | c :: r, k, h, v, hk => by
    simp only [ln18, words23]
    rw [ln_tail r (k + 1) h _ (by omega), if_pos hk, List.map_cons, wd_bytes]
    simp [Lib.joinTail]

theorem line_eq (h : List Int) (r : List ByteArray) : line23 h r = line18 h r := by
  unfold line23 line18 fin23 g38_0 g39_0
  have e1 : (ByteArray.mk #[32]).data.toList.getD 0 0 = 32 := rfl
  have e2 : (ByteArray.mk #[32, 32]).data.toList = [32, 32] := rfl
  rw [e1, e2]
  congr 3
  show Lib.join _ [32, 32] = _
  cases r with
  | nil => rfl
  | cons c r =>
    simp only [words23, ln18]
    rw [List.map_cons, Lib.join_cons, wd_bytes, ln_tail r 1 h _ (by omega)]
    simp

theorem done_eq (l : List ByteArray) : g40_0 l = g17_0 l ∧ g40_1 l = g17_1 l := by
  unfold g40_0 g40_1 g17_0 g17_1
  rw [report]
  exact ⟨rfl, rfl⟩

def Cell (c : ByteArray) : Prop := ∀ b ∈ bytesOf c, 33 ≤ b ∧ b ≤ 126

theorem cell_ok {c : ByteArray} (h : Cell c) : g48_0 c = false := by
  unfold g48_0 g49c50_0
  rw [any69c50, List.any_eq_false]
  intro b hb
  obtain ⟨h1, h2⟩ := h b hb
  have d1 : ¬ b < 33 := by omega
  have d2 : ¬ b > 126 := by omega
  simp [g50_0, d1, d2]

theorem rows_ok {x : List (List ByteArray)} (h : ∀ r ∈ x, r.length ≤ 12 ∧ ∀ c ∈ r, Cell c) : g34c35_0 x = false := by
  unfold g34c35_0
  rw [any46c35, List.any_eq_false]
  intro r hr
  obtain ⟨h1, h2⟩ := h r hr
  have d1 : ((r.length : Nat) : Int) ≤ 12 := by omega
  have e : g47c48_0 r = false := by
    unfold g47c48_0
    rw [any68c48, List.any_eq_false]
    intro c hc
    rw [cell_ok (h2 c hc)]
    simp
  unfold g35_0 g36_0
  rw [e, if_pos (by simpa using d1)]
  simp

theorem table_eq {x : List (List ByteArray)} (h : ∀ r ∈ x, r.length ≤ 12 ∧ ∀ c ∈ r, Cell c) : g23_0 x = g17_0 (g18_0 x) ∧ g23_1 x = g17_1 (g18_0 x) := by
  have e : x.map (line23 (wide23 x)) = g18_0 x := by
    unfold g18_0
    rw [wide_eq]
    congr 1
    funext r
    exact line_eq _ r
  unfold g23_0 g23_1
  rw [rows_ok h, e]
  simp only [Bool.false_eq_true, if_false]
  exact done_eq _
theorem done_len (l : List ByteArray) : (g17_0 l).length ≤ 200 := by
  unfold g17_0
  cases h : g28_0 l with
  | false => simp
  | true =>
    unfold g28_0 at h
    simp only [Bool.and_eq_true, decide_eq_true_eq] at h
    simpa using h.2

end Go.Proofs.YtpledggbnnjbiaaDoor

/- A law that says how functions of the program and of the specification hang together. -/
set_option linter.unusedVariables false
set_option linter.unusedSimpArgs false
set_option maxRecDepth 100000
namespace Go.Proofs.YtpledggbnnjbiaaDoor
open Go Go.Am Go.Proofs

def isD (b : UInt8) : Prop := 48 ≤ b.toNat ∧ b.toNat ≤ 57
def dval : List UInt8 → Nat → Nat
  | [], n => n
  | b :: r, n => dval r (10 * n + (b.toNat - 48))
theorem dval_append : ∀ (l : List UInt8) (b : UInt8) (n : Nat), dval (l ++ [b]) n = 10 * dval l n + (b.toNat - 48)
  | [], _, _ => rfl
  | c :: r, b, n => dval_append r b _
theorem dsign_nat {a : Nat} (h : a < 10) : (UInt8.ofNat (48 + a)).toNat = 48 + a := by rw [UInt8.toNat_ofNat']; omega

theorem dec_facts (n : Nat) : (∀ b ∈ Lib.decDigits n, isD b) ∧ dval (Lib.decDigits n) 0 = n ∧ 0 < (Lib.decDigits n).length ∧ (1 ≤ n → ((Lib.decDigits n).getD 0 0).toNat ≠ 48) := by
  induction n using Nat.strongRecOn with
  | _ n ih =>
    by_cases h : n < 10
    · rw [Lib.decDigits, dif_pos h]
      have e := dsign_nat h
      refine ⟨fun b hb => ?_, ?_, by simp, fun h1 => ?_⟩
      · rw [List.mem_singleton.1 hb]; unfold isD; omega
      · show 10 * 0 + ((UInt8.ofNat (48 + n)).toNat - 48) = n; omega
      · show (UInt8.ofNat (48 + n)).toNat ≠ 48; omega
    · rw [Lib.decDigits, dif_neg h]
      obtain ⟨i1, i2, i3, i4⟩ := ih (n / 10) (by omega)
      have e := dsign_nat (a := n % 10) (by omega)
      refine ⟨fun b hb => ?_, ?_, by simp, fun h1 => ?_⟩
      · rcases List.mem_append.1 hb with hb | hb
        · exact i1 b hb
        · rw [List.mem_singleton.1 hb]; unfold isD; omega
      · rw [dval_append, i2, e]; omega
      · have i4 := i4 (by omega)
        cases hd : Lib.decDigits (n / 10) with
        | nil => rw [hd] at i3; simp at i3
        | cons c r => rw [hd] at i4; exact i4

theorem dec_len : ∀ (k n : Nat), n < 10 ^ (k + 1) → (Lib.decDigits n).length ≤ k + 1
  | 0, n, h => by rw [Lib.decDigits, dif_pos (by simpa using h)]; simp
  | k + 1, n, h => by
    rw [Lib.decDigits]
    split
    · simp
    · have := dec_len k (n / 10) (by rw [Nat.pow_succ] at h; omega)
      simp; omega


end Go.Proofs.YtpledggbnnjbiaaDoor

/- A law that says how functions of the program and of the specification hang together. -/
set_option linter.unusedVariables false
set_option linter.unusedSimpArgs false
set_option maxRecDepth 100000
namespace Go.Proofs.YtpledggbnnjbiaaDoor
open Go Go.Am Go.Proofs

theorem name_cell {s : ByteArray} (h : g41_0 s = true) : Cell s ∧ s.size ≤ 10 := by
  unfold g41_0 at h
  simp only [Bool.and_eq_true, decide_eq_true_eq, List.all_eq_true, Bool.or_eq_true] at h
  refine ⟨fun b hb => ?_, h.1.1.2⟩
  rcases h.2 b hb with h | h
  · unfold g62_0 at h
    by_cases c : b ≥ 97
    · rw [if_pos (by simpa using c)] at h
      have : b ≤ 122 := by simpa using h
      omega
    · rw [if_neg (by simpa using c)] at h; cases h
  · unfold g63_0 at h
    by_cases c : b ≥ 48
    · rw [if_pos (by simpa using c)] at h
      have : b ≤ 57 := by simpa using h
      omega
    · rw [if_neg (by simpa using c)] at h; cases h

theorem bytes_cell {l : List UInt8} (h : ∀ b ∈ l, 33 ≤ b.toNat ∧ b.toNat ≤ 126) : Cell ⟨⟨l⟩⟩ := by
  intro b hb
  unfold bytesOf at hb
  obtain ⟨c, hc, rfl⟩ := List.mem_map.1 hb
  have := h c hc
  omega

theorem dec_cell {n : Int} (h : 0 ≤ n) (h2 : n ≤ 1000000000000) : Cell (numB n) ∧ (numB n).size ≤ 21 := by
  refine ⟨?_, numB_size n (by omega) (by omega)⟩
  obtain ⟨k, rfl⟩ := Int.eq_ofNat_of_zero_le h
  have e : numB (k : Int) = ⟨⟨Lib.decDigits k⟩⟩ := by
    unfold numB Lib.itoa
    rw [if_neg (by omega), Int.toNat_natCast]
  rw [e]
  refine bytes_cell fun b hb => ?_
  have := (dec_facts k).1 b hb
  unfold isD at this
  omega

end Go.Proofs.YtpledggbnnjbiaaDoor

/- A law that says how functions of the program and of the specification hang together. -/
set_option linter.unusedVariables false
set_option linter.unusedSimpArgs false
set_option maxRecDepth 100000
namespace Go.Proofs.YtpledggbnnjbiaaDoor
open Go Go.Am Go.Proofs

def pz : Nat → Nat → List UInt8
  | 0, _ => []
  | d + 1, n => pz d (n / 10) ++ [UInt8.ofNat (48 + n % 10)]

theorem pz_len : ∀ d n, (pz d n).length = d
  | 0, _ => rfl
  | d + 1, n => by rw [pz, List.length_append, pz_len d]; rfl

theorem pz_zero : ∀ d, pz d 0 = List.replicate d 48
  | 0 => rfl
  | d + 1 => by
    rw [pz, Nat.zero_div, pz_zero d, List.replicate_succ']
    rfl

theorem dec_ahead : ∀ (d n : Nat), n < 10 ^ d → Lib.decDigits (n + 10 ^ d) = 49 :: pz d n
  | 0, n, h => by
    obtain rfl : n = 0 := by simpa using h
    rw [Lib.decDigits, dif_pos (by decide)]
    rfl
  | d + 1, n, h => by
    have hp : 1 ≤ 10 ^ d := Nat.one_le_pow _ _ (by decide)
    rw [Nat.pow_succ] at h ⊢
    have ih := dec_ahead d (n / 10) (by omega)
    rw [Lib.decDigits, dif_neg (by omega), show (n + 10 ^ d * 10) / 10 = n / 10 + 10 ^ d by omega, show (n + 10 ^ d * 10) % 10 = n % 10 by omega, ih, pz]
    rfl

theorem dec_zeros : ∀ (d n : Nat), 1 ≤ d → n < 10 ^ d → List.replicate (d - (Lib.decDigits n).length) 48 ++ Lib.decDigits n = pz d n
  | 0, _, h, _ => by omega
  | d + 1, n, _, h => by
    rw [pz]
    by_cases hs : n < 10
    · rw [Lib.decDigits, dif_pos hs, show n / 10 = 0 by omega, show n % 10 = n by omega, pz_zero]
      rfl
    · rw [Nat.pow_succ] at h
      have hd : 1 ≤ d := by
        rcases Nat.eq_zero_or_pos d with rfl | hd
        · simp at h; omega
        · exact hd
      have ih := dec_zeros d (n / 10) hd (by omega)
      rw [Lib.decDigits, dif_neg hs, List.length_append, List.length_singleton, Nat.add_sub_add_right, ← List.append_assoc, ih]

theorem pz_all : ∀ (d n : Nat), ∀ b ∈ pz d n, isD b
  | 0, _, b, hb => by cases hb
  | d + 1, n, b, hb => by
    rw [pz] at hb
    rcases List.mem_append.1 hb with hb | hb
    · exact pz_all d _ b hb
    · rw [List.mem_singleton.1 hb]
      have := dsign_nat (a := n % 10) (by omega)
      unfold isD
      omega

end Go.Proofs.YtpledggbnnjbiaaDoor

/- A law that says how functions of the program and of the specification hang together. -/
set_option linter.unusedVariables false
set_option linter.unusedSimpArgs false
set_option maxRecDepth 100000
namespace Go.Proofs.YtpledggbnnjbiaaDoor
open Go Go.Am Go.Proofs

def fixT (neg : Bool) (A d : Nat) : ByteArray := ⟨⟨(if neg then [45] else []) ++ Lib.decDigits (A / 10 ^ d) ++ 46 :: pz d (A % 10 ^ d)⟩⟩

theorem pad_pz {k d : Nat} (h : k < 10 ^ d) (h1 : 1 ≤ d) : g32_0 (k : Int) (d : Int) = ⟨⟨pz d k⟩⟩ := by
  unfold g32_0
  have e : g22_0 (k : Int) = ⟨⟨Lib.decDigits k⟩⟩ := by
    show numB _ = _
    unfold numB Lib.itoa
    rw [if_neg (by omega), Int.toNat_natCast]
  have hs : (ByteArray.mk ⟨Lib.decDigits k⟩).size = (Lib.decDigits k).length := rfl
  rw [e, hs, ← dec_zeros d k h1 h]
  have hc : (if 0 < (d : Int) - ((Lib.decDigits k).length : Int) then (d : Int) - ((Lib.decDigits k).length : Int) else 0) = ((d - (Lib.decDigits k).length : Nat) : Int) := by
    split <;> omega
  rw [hc]
  apply ByteArray.ext
  apply Array.ext'
  have hr : Lib.repeatL (List.replicate 1 48) (d - (Lib.decDigits k).length) = List.replicate (d - (Lib.decDigits k).length) (48 : UInt8) := by
    rw [Lib.repeatL_replicate, Nat.mul_one]
  unfold g37_0
  rw [Int.toNat_natCast, ByteArray.data_append, Array.toList_append]
  show Lib.repeatL [48] _ ++ Lib.decDigits k = _
  have h48 : ([48] : List UInt8) = List.replicate 1 48 := rfl
  rw [h48, hr]

theorem fix_i {n : Int} {d : Nat} (hn : -1000000000 ≤ n ∧ n ≤ 1000000000) (h1 : 1 ≤ d) (h6 : d ≤ 6) : g21_0 n (d : Int) = fixT (decide (n < 0)) n.natAbs d := by
  have dk : ∀ k : Nat, g22_0 (k : Int) = ⟨⟨Lib.decDigits k⟩⟩ := fun k => by
    show numB _ = _
    unfold numB Lib.itoa
    rw [if_neg (by omega), Int.toNat_natCast]
  have hd := dk (n.natAbs / 10 ^ d)
  have hp : n.natAbs % 10 ^ d < 10 ^ d := Nat.mod_lt _ (Nat.pos_of_ne_zero (by have := Nat.one_le_pow d 10 (by decide); omega))
  have w0 : g30_0 n (-1000000000) 1000000000 = true := by
    unfold g30_0
    rw [if_pos (by simp only [decide_eq_true_eq]; omega)]
    simp only [decide_eq_true_eq]; omega
  have w1 : g30_0 (d : Int) 1 6 = true := by
    unfold g30_0
    rw [if_pos (by simp only [decide_eq_true_eq]; omega)]
    simp only [decide_eq_true_eq]; omega
  unfold g21_0 u21
  rw [w0, w1, Int.toNat_natCast, hd, pad_pz hp h1]
  simp only [Bool.not_true, Bool.false_eq_true, if_false]
  unfold fixT
  apply ByteArray.ext
  apply Array.ext'
  by_cases hx : n < 0 <;> simp [hx, ByteArray.data_append]

theorem fix_s {n : Int} {d : Nat} (hn : -1000000000 ≤ n ∧ n ≤ 1000000000) (h1 : 1 ≤ d) (h6 : d ≤ 6) : g15_0 n (d : Int) = fixT (decide (n < 0)) n.natAbs d := by
  have hten : g27_0 (d : Int) = ((10 ^ d : Nat) : Int) := by unfold g27_0; rw [Int.toNat_natCast]
  have hp0 : 1 ≤ 10 ^ d := Nat.one_le_pow _ _ (by decide)
  have key : ∀ A : Nat, g16_0 (Int.tdiv (A : Int) ((10 ^ d : Nat) : Int)) = ⟨⟨Lib.decDigits (A / 10 ^ d)⟩⟩ ∧ ByteArray.extract (g16_0 (Int.tmod (A : Int) ((10 ^ d : Nat) : Int) + ((10 ^ d : Nat) : Int))) 1 (Int.toNat (((g16_0 (Int.tmod (A : Int) ((10 ^ d : Nat) : Int) + ((10 ^ d : Nat) : Int))).size : Nat) : Int)) = ⟨⟨pz d (A % 10 ^ d)⟩⟩ := by
    intro A
    have t1 : Int.tdiv (A : Int) ((10 ^ d : Nat) : Int) = ((A / 10 ^ d : Nat) : Int) := rfl
    have t2 : Int.tmod (A : Int) ((10 ^ d : Nat) : Int) + ((10 ^ d : Nat) : Int) = ((A % 10 ^ d + 10 ^ d : Nat) : Int) := by rw [Int.natCast_add]; rfl
    have dk : ∀ k : Nat, g16_0 (k : Int) = ⟨⟨Lib.decDigits k⟩⟩ := fun k => by
      show numB _ = _
      unfold numB Lib.itoa
      rw [if_neg (by omega), Int.toNat_natCast]
    rw [t1, t2, dk, dk, Int.toNat_natCast, dec_ahead d _ (Nat.mod_lt _ hp0)]
    refine ⟨rfl, ?_⟩
    have hx := Lib.extract_mk (49 :: pz d (A % 10 ^ d)) 1 (49 :: pz d (A % 10 ^ d)).length
    rw [List.take_of_length_le (by rw [List.length_drop]; exact Nat.le_refl _)] at hx
    exact hx
  unfold g15_0 fixT
  rw [hten]
  by_cases hx : n < 0
  · have e : 0 - n = ((n.natAbs : Nat) : Int) := by omega
    obtain ⟨k1, k2⟩ := key n.natAbs
    rw [e, k1, k2]
    simp only [hx, decide_true, if_true]
    apply ByteArray.ext
    apply Array.ext'
    simp [ByteArray.data_append]
  · have e : n = ((n.natAbs : Nat) : Int) := by omega
    obtain ⟨k1, k2⟩ := key n.natAbs
    rw [← e] at k1 k2
    rw [k1, k2]
    simp only [hx, decide_false, Bool.false_eq_true, if_false]
    apply ByteArray.ext
    apply Array.ext'
    simp [ByteArray.data_append]

end Go.Proofs.YtpledggbnnjbiaaDoor

/- A law that says how functions of the program and of the specification hang together. -/
set_option linter.unusedVariables false
set_option linter.unusedSimpArgs false
set_option maxRecDepth 100000
namespace Go.Proofs.YtpledggbnnjbiaaDoor
open Go Go.Am Go.Proofs

end Go.Proofs.YtpledggbnnjbiaaDoor

/- A law that says how functions of the program and of the specification hang together. -/
set_option linter.unusedVariables false
set_option linter.unusedSimpArgs false
set_option maxRecDepth 100000
namespace Go.Proofs.YtpledggbnnjbiaaDoor
open Go Go.Am Go.Proofs

end Go.Proofs.YtpledggbnnjbiaaDoor

/- A law that says how functions of the program and of the specification hang together. -/
set_option linter.unusedVariables false
set_option linter.unusedSimpArgs false
set_option maxRecDepth 100000
namespace Go.Proofs.YtpledggbnnjbiaaDoor
open Go Go.Am Go.Proofs

end Go.Proofs.YtpledggbnnjbiaaDoor

/- A law that says how functions of the program and of the specification hang together. -/
set_option linter.unusedVariables false
set_option linter.unusedSimpArgs false
set_option maxRecDepth 100000
namespace Go.Proofs.YtpledggbnnjbiaaDoor
open Go Go.Am Go.Proofs

end Go.Proofs.YtpledggbnnjbiaaDoor

/- A law that says how functions of the program and of the specification hang together. -/
set_option linter.unusedVariables false
set_option linter.unusedSimpArgs false
set_option maxRecDepth 100000
namespace Go.Proofs.YtpledggbnnjbiaaDoor
open Go Go.Am Go.Proofs

end Go.Proofs.YtpledggbnnjbiaaDoor

/- A law that says how functions of the program and of the specification hang together. -/
set_option linter.unusedVariables false
set_option linter.unusedSimpArgs false
set_option maxRecDepth 100000
namespace Go.Proofs.YtpledggbnnjbiaaDoor
open Go Go.Am Go.Proofs

end Go.Proofs.YtpledggbnnjbiaaDoor

/- A law that says how functions of the program and of the specification hang together. -/
set_option linter.unusedVariables false
set_option linter.unusedSimpArgs false
set_option maxRecDepth 100000
namespace Go.Proofs.YtpledggbnnjbiaaDoor
open Go Go.Am Go.Proofs

theorem fix_spre {n : Int} {d : Nat} (hn : -1000000000 ≤ n ∧ n ≤ 1000000000) (h1 : 1 ≤ d) (h6 : d ≤ 6) : P15 n (d : Int) := by
  have hten : g27_0 (d : Int) = ((10 ^ d : Nat) : Int) := by unfold g27_0; rw [Int.toNat_natCast]
  have hp0 : 1 ≤ 10 ^ d := Nat.one_le_pow _ _ (by decide)
  have hp1 : 10 ^ d ≤ 10 ^ 6 := Nat.pow_le_pow_right (by decide) h6
  have hP : P27 (d : Int) := by unfold P27; omega
  have key : ∀ A : Nat, A ≤ 1000000000 → ∃ q r : Nat, Int.tdiv (A : Int) ((10 ^ d : Nat) : Int) = (q : Int) ∧ Int.tmod (A : Int) ((10 ^ d : Nat) : Int) = (r : Int) ∧ q ≤ 1000000000 ∧ r ≤ 1000000 := by
    intro A hA
    refine ⟨A / 10 ^ d, A % 10 ^ d, rfl, rfl, ?_, ?_⟩
    · exact Nat.le_trans (Nat.div_le_self _ _) hA
    · have := Nat.mod_lt A hp0; omega
  have sz : ∀ m : Int, 0 ≤ m → m ≤ 2000000000 → (g16_0 m).size ≤ 21 ∧ 1 ≤ (g16_0 m).size := by
    intro m h0 hm
    refine ⟨numB_size m (by omega) (by omega), ?_⟩
    obtain ⟨k, rfl⟩ := Int.eq_ofNat_of_zero_le h0
    have e : g16_0 (k : Int) = ⟨⟨Lib.decDigits k⟩⟩ := by
      show numB _ = _
      unfold numB Lib.itoa
      rw [if_neg (by omega), Int.toNat_natCast]
    have hl := (dec_facts k).2.2.1
    have es : (ByteArray.mk ⟨Lib.decDigits k⟩).size = (Lib.decDigits k).length := rfl
    rw [e, es]; omega
  unfold P15
  rw [hten]
  generalize hT : 10 ^ d = T at *
  have i45 : (ByteArray.mk #[45]).size = 1 := rfl
  have i46 : (ByteArray.mk #[46]).size = 1 := rfl
  have i0 : (ByteArray.mk #[]).size = 0 := rfl
  by_cases hx : n < 0
  · obtain ⟨q, r, e1, e2, hq, hr⟩ := key n.natAbs (by omega)
    have e : 0 - n = ((n.natAbs : Nat) : Int) := by omega
    obtain ⟨a1, a2⟩ := sz (q : Int) (by omega) (by omega)
    obtain ⟨b1, b2⟩ := sz ((r : Int) + (T : Int)) (by omega) (by omega)
    simp only [hx, decide_true, if_true]
    rw [e, e1, e2]
    simp only [ByteArray.size_append, ByteArray.size_extract, i45, i46]
    refine ⟨by rw [i64_iff]; omega, hP, ⟨by omega, by rw [i64_iff]; omega, by rw [i64_iff]; omega, by omega, by rw [i64_iff]; omega, by omega, by omega, by omega, by omega, trivial⟩⟩
  · obtain ⟨q, r, e1, e2, hq, hr⟩ := key n.natAbs (by omega)
    have e : n = ((n.natAbs : Nat) : Int) := by omega
    obtain ⟨a1, a2⟩ := sz (q : Int) (by omega) (by omega)
    obtain ⟨b1, b2⟩ := sz ((r : Int) + (T : Int)) (by omega) (by omega)
    rw [← e] at e1 e2
    simp only [hx, decide_false, Bool.false_eq_true, if_false]
    rw [e1, e2]
    simp only [ByteArray.size_append, ByteArray.size_extract, i0, i46]
    refine ⟨hP, ⟨by omega, by rw [i64_iff]; omega, by rw [i64_iff]; omega, by omega, by rw [i64_iff]; omega, by omega, by omega, by omega, by omega, trivial⟩⟩

end Go.Proofs.YtpledggbnnjbiaaDoor

/- A law that says how functions of the program and of the specification hang together. -/
set_option linter.unusedVariables false
set_option linter.unusedSimpArgs false
set_option maxRecDepth 100000
namespace Go.Proofs.YtpledggbnnjbiaaDoor
open Go Go.Am Go.Proofs
theorem name_eq (s : ByteArray) : g44_0 s = g41_0 s := by
  have hs : ∀ c, g62_0 c = (decide (97 ≤ c) && decide (c ≤ 122)) := fun c => by
    unfold g62_0
    by_cases h1 : (97 : Int) ≤ c <;> simp [h1]
  have hd : ∀ c, g63_0 c = (decide (48 ≤ c) && decide (c ≤ 57)) := fun c => by
    unfold g63_0
    by_cases h1 : (48 : Int) ≤ c <;> simp [h1]
  unfold g44_0 g41_0
  have hl := bytesOf_length s
  by_cases h1 : 1 ≤ s.size
  · cases hb : bytesOf s with
    | nil => rw [hb] at hl; simp at hl; omega
    | cons c r =>
      have hr : allI ok44 1 r = r.all fun b => g62_0 b || g63_0 b := by
        rw [← allI_plain (fun b => g62_0 b || g63_0 b) r 1]
        refine allI_congr r 1 fun j x hj => ?_
        have : (j == 0) = false := by simp; omega
        simp only [ok44, this, hs, hd, Bool.not_false, Bool.true_and]
      have h0 : ok44 0 c = g62_0 c := by simp [ok44, hs]
      simp only [allI, hr, h0, List.all_cons, List.getD_cons_zero]
      cases g62_0 c <;> simp
  · simp [h1]


end Go.Proofs.YtpledggbnnjbiaaDoor

/- A law that says how functions of the program and of the specification hang together. -/
set_option linter.unusedVariables false
set_option linter.unusedSimpArgs false
set_option maxRecDepth 100000
namespace Go.Proofs.YtpledggbnnjbiaaDoor
open Go Go.Am Go.Proofs

theorem bl_asym {x y : List UInt8} (h : Op.bytesLess x y = true) : Op.bytesLess y x = false := by
  cases h2 : Op.bytesLess y x with
  | false => rfl
  | true =>
    have := bl_trans x y x h h2
    rw [bl_irrefl] at this
    cases this

theorem le_not (a b : ByteArray) : (!(Op.bytesLess (ByteArray.toList a) (ByteArray.toList b) || ByteArray.toList a == ByteArray.toList b)) = Op.bytesLess (ByteArray.toList b) (ByteArray.toList a) := by
  generalize ByteArray.toList a = x
  generalize ByteArray.toList b = y
  cases h1 : Op.bytesLess x y with
  | true => rw [bl_asym h1]; rfl
  | false =>
    cases h2 : (x == y) with
    | true =>
      have : x = y := by simpa using h2
      subst this
      rw [bl_irrefl]; rfl
    | false =>
      cases h3 : Op.bytesLess y x with
      | true => rfl
      | false =>
        have := bl_tri x y h1 h3
        subst this
        simp at h2

theorem allI_mem {α : Type} {p : Nat → α → Bool} : ∀ (l : List α) (i : Nat), allI p i l = true → ∀ x ∈ l, ∃ j, p j x = true
  | [], _, _, x, hx => by cases hx
  | y :: r, i, h, x, hx => by
    simp only [allI, Bool.and_eq_true] at h
    rcases List.mem_cons.1 hx with rfl | hx
    · exact ⟨i, h.1⟩
    · exact allI_mem r (i + 1) h.2 x hx

end Go.Proofs.YtpledggbnnjbiaaDoor

/- A law that says how functions of the program and of the specification hang together. -/
set_option linter.unusedVariables false
set_option linter.unusedSimpArgs false
set_option maxRecDepth 100000
namespace Go.Proofs.YtpledggbnnjbiaaDoor
open Go Go.Am Go.Proofs

theorem one_Fare (x : (ByteArray × Int × Int × Int × Unit)) : g29_0 x = g26_0 x := by
  unfold g29_0 g26_0
  rw [name_eq]
  rfl

theorem list_Fare (xs : List (ByteArray × Int × Int × Int × Unit)) : g20_0 xs = g14_0 xs := by
  unfold g20_0 g14_0
  congr 1
  refine allI_congr xs 0 fun j y _ => ?_
  unfold ok20 ok14
  rw [one_Fare, le_not]

end Go.Proofs.YtpledggbnnjbiaaDoor

/- A law that says how functions of the program and of the specification hang together. -/
set_option linter.unusedVariables false
set_option linter.unusedSimpArgs false
set_option maxRecDepth 100000
namespace Go.Proofs.YtpledggbnnjbiaaDoor
open Go Go.Am Go.Proofs

theorem fare_in {x a b : Int} (h : g42_0 x a b = true) : a ≤ x ∧ x ≤ b := by
  unfold g42_0 at h
  by_cases c1 : x ≥ a
  · by_cases c2 : x ≤ b
    · exact ⟨c1, c2⟩
    · simp [c1, c2] at h
  · simp [c1] at h

theorem fare_parts {x : ByteArray × Int × Int × Int × Unit} (h : g26_0 x = true) : g41_0 x.1 = true ∧ (0 ≤ x.2.1 ∧ x.2.1 ≤ 100000) ∧ (1 ≤ x.2.2.1 ∧ x.2.2.1 ≤ 1000) ∧ (1 ≤ x.2.2.2.1 ∧ x.2.2.2.1 ≤ 400) := by
  unfold g26_0 at h
  split at h
  · rename_i h0
    split at h
    · rename_i h1
      split at h
      · rename_i h2
        exact ⟨h0, fare_in h1, fare_in h2, fare_in h⟩
      · cases h
    · cases h
  · cases h

theorem fare_all {xs : List (ByteArray × Int × Int × Int × Unit)} (h : g14_0 xs = true) : xs.length ≤ 8 ∧ ∀ x ∈ xs, g26_0 x = true := by
  unfold g14_0 at h
  simp only [Bool.and_eq_true, decide_eq_true_eq] at h
  refine ⟨h.2, fun x hx => ?_⟩
  obtain ⟨j, hj⟩ := allI_mem xs 0 h.1 x hx
  unfold ok14 at hj
  simp only [Bool.and_eq_true] at hj
  exact hj.1

theorem fix_cell {A : Nat} (h : A ≤ 100000) : Cell (fixT false A 2) ∧ (fixT false A 2).size ≤ 1000 := by
  constructor
  · refine bytes_cell fun b hb => ?_
    simp only [Bool.false_eq_true, if_false, List.nil_append] at hb
    rcases List.mem_append.1 hb with hb | hb
    · have := (dec_facts (A / 10 ^ 2)).1 b hb
      unfold isD at this
      omega
    · rcases List.mem_cons.1 hb with rfl | hb
      · decide
      · have := pz_all 2 (A % 10 ^ 2) b hb
        unfold isD at this
        omega
  · have h1 := dec_len 6 (A / 10 ^ 2) (by have : A / 10 ^ 2 ≤ A := Nat.div_le_self _ _; omega)
    have h2 := pz_len 2 (A % 10 ^ 2)
    show (Array.mk _).size ≤ 1000
    show List.length _ ≤ 1000
    simp only [Bool.false_eq_true, if_false, List.nil_append, List.length_append, List.length_cons]
    omega

theorem fare_row {x : ByteArray × Int × Int × Int × Unit} (h : g26_0 x = true) : rw7 x = rw5 x ∧ (∀ c ∈ rw5 x, Cell c ∧ c.size ≤ 1000) ∧ P15 x.2.1 2 := by
  obtain ⟨h0, h1, h2, h3⟩ := fare_parts h
  obtain ⟨A, hA⟩ := Int.eq_ofNat_of_zero_le h1.1
  have f1 := fix_i (n := x.2.1) (d := 2) (by omega) (by decide) (by decide)
  have f2 := fix_s (n := x.2.1) (d := 2) (by omega) (by decide) (by decide)
  have fp := fix_spre (n := x.2.1) (d := 2) (by omega) (by decide) (by decide)
  have en : decide (x.2.1 < 0) = false := decide_eq_false (by omega)
  have ea : x.2.1.natAbs = A := by rw [hA]; rfl
  rw [en, ea] at f1 f2
  have f1 : g21_0 x.2.1 2 = fixT false A 2 := f1
  have f2 : g15_0 x.2.1 2 = fixT false A 2 := f2
  have d1 : ∀ n : Int, g22_0 n = numB n := fun n => rfl
  have d2 : ∀ n : Int, g16_0 n = numB n := fun n => rfl
  refine ⟨?_, fun c hc => ?_, fp⟩
  · unfold rw7 rw5
    rw [f1, f2]
    rfl
  · unfold rw5 at hc
    rw [f2, d2, d2] at hc
    simp only [List.mem_cons, List.mem_nil_iff, or_false] at hc
    rcases hc with rfl | rfl | rfl | rfl
    · obtain ⟨a, b⟩ := name_cell h0; exact ⟨a, by omega⟩
    · exact fix_cell (by omega)
    · obtain ⟨a, b⟩ := dec_cell (n := x.2.2.1) (by omega) (by omega); exact ⟨a, by omega⟩
    · obtain ⟨a, b⟩ := dec_cell (n := x.2.2.2.1) (by omega) (by omega); exact ⟨a, by omega⟩

theorem fare_report (xs : List (ByteArray × Int × Int × Int × Unit)) : P7 xs ∧ P5 xs ∧ g7_0 xs = g5_0 xs ∧ g7_1 xs = g5_1 xs ∧ (g5_0 xs).length ≤ 200 := by
  have hv := list_Fare xs
  unfold P7 P5 g7_0 g7_1 g5_0 g5_1
  rw [hv]
  cases h : g14_0 xs with
  | false =>
    simp only [Bool.false_eq_true, if_false, false_implies, true_and]
    exact Nat.zero_le _
  | true =>
    obtain ⟨hl, ho⟩ := fare_all h
    have er : xs.map rw7 = xs.map rw5 := List.map_congr_left fun x hx => (fare_row (ho x hx)).1
    have eh : hd7 = hd5 := rfl
    have hok : ∀ r ∈ hd5 :: xs.map rw5, r.length ≤ 12 ∧ ∀ c ∈ r, Cell c := fun r hr => by
      rcases List.mem_cons.1 hr with rfl | hr
      · refine ⟨by decide, fun c hc => ?_⟩
        unfold hd5 at hc
        simp only [List.mem_cons, List.mem_nil_iff, or_false] at hc
        rcases hc with rfl | rfl | rfl | rfl <;> exact bytes_cell (by decide)
      · obtain ⟨x, hx, rfl⟩ := List.mem_map.1 hr
        exact ⟨by show 4 ≤ 12; decide, fun c hc => ((fare_row (ho x hx)).2.1 c hc).1⟩
    obtain ⟨t0, t1⟩ := table_eq hok
    rw [er, eh, t0, t1]
    refine ⟨fun _ => ⟨by omega, fun f hf => ?_⟩, fun _ => ⟨by omega, fun f hf => ?_⟩, rfl, rfl, ?_⟩
    · refine ⟨⟨rfl, trivial⟩, ⟨rfl, trivial⟩, fun c hc => ?_⟩
      rw [(fare_row (ho f hf)).1] at hc
      have := ((fare_row (ho f hf)).2.1 c hc).2
      omega
    · exact ⟨(fare_row (ho f hf)).2.2, fun c hc => by have := ((fare_row (ho f hf)).2.1 c hc).2; omega⟩
    · rw [if_pos rfl]
      exact done_len _

end Go.Proofs.YtpledggbnnjbiaaDoor

/- A law that says how functions of the program and of the specification hang together. -/
set_option linter.unusedVariables false
set_option linter.unusedSimpArgs false
set_option maxRecDepth 100000
namespace Go.Proofs.YtpledggbnnjbiaaDoor
open Go Go.Am Go.Proofs

theorem marked_fare (xs : List (ByteArray × Int × Int × Int × Unit)) (h : xs.length ≤ 1048576) : P10 xs 1 ∧ (u10_0 xs 1).length = xs.length ∧ ¬ g10_0 xs 1 < 0 := by
  have hl : (u10_0 xs 1).length = xs.length := by rw [u10_0, M10_len]
  refine ⟨⟨by omega, by omega⟩, hl, ?_⟩
  unfold g10_0
  omega

end Go.Proofs.YtpledggbnnjbiaaDoor

/- A law that says how functions of the program and of the specification hang together. -/
set_option linter.unusedVariables false
set_option linter.unusedSimpArgs false
set_option maxRecDepth 100000
namespace Go.Proofs.YtpledggbnnjbiaaDoor
open Go Go.Am Go.Proofs

theorem marked_strs (xs : List ByteArray) (h : xs.length ≤ 1048576) : P11 xs 1 ∧ (u11_0 xs 1).length = xs.length ∧ ¬ g11_0 xs 1 < 0 := by
  have hl : (u11_0 xs 1).length = xs.length := by rw [u11_0, M11_len]
  refine ⟨⟨by omega, by omega⟩, hl, ?_⟩
  unfold g11_0
  omega

end Go.Proofs.YtpledggbnnjbiaaDoor

/- A law that says how functions of the program and of the specification hang together. -/
set_option linter.unusedVariables false
set_option linter.unusedSimpArgs false
set_option maxRecDepth 100000
namespace Go.Proofs.YtpledggbnnjbiaaDoor
open Go Go.Am Go.Proofs

theorem held_strs (xs : List ByteArray) (h : xs.length ≤ 1048576) : P12 (u11_0 xs 1) 1 ∧ g12_0 (u11_0 xs 1) 1 = g11_0 xs 1 := by
  have hl : (u11_0 xs 1).length = xs.length := by rw [u11_0, M11_len]
  refine ⟨⟨⟨by omega, by rw [hl]; omega⟩, fun i hi => ?_⟩, ?_⟩
  · rw [hl] at hi
    rw [getD_lt _ _ _ (by rw [hl]; exact hi)]
    simp [u11_0, M11]
  · unfold g12_0 g11_0
    rw [hl]

end Go.Proofs.YtpledggbnnjbiaaDoor

/- The plain law of FnExactFareReport. -/
set_option linter.unusedVariables false
set_option linter.unusedSimpArgs false
set_option maxRecDepth 100000
namespace Go.Proofs.YtpledggbnnjbiaaDoor
open Go Go.Am Go.Proofs

theorem law3 (x : List (ByteArray × Int × Int × Int × Unit)) (hw : Wf (.sl (.cons .str (.cons (.int .i64) (.cons (.int .i64) (.cons (.int .i64) .unit))))) x) : P3 x ∧ g3_0 x = true := by
  unfold P3 g3_0
  have hz : P4 x 1048576 := (show (0 : Int) ≤ 1048576 from by decide)
  by_cases h : g4_0 x 1048576 < 0
  · simp only [h, hz, decide_true, if_true, and_true]
  · have hs := g4_le x 1048576 (by decide) (by decide) hw h
    have hp : P6 x := by
      show 40 * (x.length : Int) ≤ 281474976710656
      omega
    obtain ⟨p2, p1, e0, e1, hl⟩ := fare_report x
    obtain ⟨b1, b2, b3⟩ := marked_fare x (by omega)
    obtain ⟨c1, c2, c3⟩ := marked_strs (g5_0 x) (by omega)
    obtain ⟨d1, d2⟩ := held_strs (g5_0 x) (by omega)
    have hn : ¬ g11_0 (g5_0 x) 1 < 0 := c3
    simp only [h, decide_false, Bool.false_eq_true, if_false, g6_0, e0, e1, p1, p2, g8_0, g9_0, decide_true, Bool.not_true, bne_self_eq_false, beq_self_eq_true, b1, b2, b3, c1, c2, c3, d1, d2, hp, hz, true_and, and_self]

end Go.Proofs.YtpledggbnnjbiaaDoor
