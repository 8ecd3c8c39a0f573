/- Several texts in one: the functions that this law reaches, and their laws. -/
import Derived.Test.YthlhnglkechkaaaGreatDoorZ3A
import Derived.Test.YthlhnglkechkaaaGreatDoorZ3B
import Derived.Test.YthlhnglkechkaaaGreatDoorZ3C
import Derived.Test.YthlhnglkechkaaaGreatDoorZ3D
import Derived.Shelf.Utf8.RuneCount
import Derived.Shelf.Strings.Search1
import Derived.Shelf.Strings.Search2
import Derived.Shelf.Strings.Search3
import Derived.Shelf.Strings.Count
import Derived.Shelf.LaysM
import Derived.Shelf.Strings.Shaped
import Derived.Shelf.Strings.Split
import Derived.Shelf.Strings.SplitShaped
import Derived.Shelf.Unicode.Decode
import Derived.Shelf.Strings.RuneCount
import Derived.Shelf.Strings.Explode
import Derived.Shelf.Unicode.DecodeSlow
import Derived.Shelf.Unicode.DecodeAny

/- Function 26 (impl.ValidProfile): its runs between cut points. Written by a program of this repo (gen). -/
set_option linter.unusedVariables false
set_option linter.unusedSimpArgs false
set_option maxRecDepth 100000
namespace Go.Proofs.YthlhnglkechkaaaGreatDoor
open Go Go.Am Go.Proofs
noncomputable section
def ext26 : Ext := [(59, S59), (24, S24)]
theorem call26_59 : Callable Tryz.prog 59 := ⟨Tryz.f59, Tryz.func59, by kernel_rfl, by kernel_rfl⟩
theorem call26_24 : Callable Tryz.prog 24 := ⟨Tryz.f24, Tryz.func24, by kernel_rfl, by kernel_rfl⟩
theorem ext26Ok : ExtOk Tryz.prog ext26 := ⟨⟨call26_59, con59⟩, ⟨call26_24, con24⟩, trivial⟩

noncomputable def b26 : Code := bodyOf Tryz.f26
theorem hb26 : Tryz.f26.body = some b26 := by kernel_rfl
def sig26 : List AT := [AT.v (Ty.cons (Ty.int .i64) (Ty.cons (Ty.int .i64) (Ty.cons (Ty.int .i64) (Ty.cons (Ty.int .i64) Ty.unit))))]
def tys26 : List Ty := [Ty.bool]
def kds26 : List RK := []
def oks26 : List AT := owns sig26
def P26 (x0 : Int × Int × Int × Int × Unit) : Prop := True
def g26_0 (x0 : Int × Int × Int × Int × Unit) : Bool := (if (g59_0 x0.1 1 2000) = true then (if (g59_0 x0.2.1 100 15000) = true then (if (g59_0 x0.2.2.1 100 x0.2.1) = true then g24_0 x0.2.2.2.1 else false) else false) else false)
theorem p26_0 (x0 : Int × Int × Int × Int × Unit) : runF tab ext26 false 23 [] 2000 [] oks26 kds26 tys26 Tryz.f26.results [true, true, true] [.code b26] (entE 0 0 sig26 (x0, ())) (entL sig26 (x0, ())) = some ([Dyn.mk Ty.bool (g24_0 x0.2.2.2.1)], [], [True, g59_0 x0.1 1 2000 = true, True, g59_0 x0.2.1 100 15000 = true, True, g59_0 x0.2.2.1 100 x0.2.1 = true, True]) := by kernel_rfl
theorem p26_1 (x0 : Int × Int × Int × Int × Unit) : runF tab ext26 false 23 [] 2000 [] oks26 kds26 tys26 Tryz.f26.results [true, true, false] [.code b26] (entE 0 0 sig26 (x0, ())) (entL sig26 (x0, ())) = some ([Dyn.mk Ty.bool false], [], [True, g59_0 x0.1 1 2000 = true, True, g59_0 x0.2.1 100 15000 = true, True, g59_0 x0.2.2.1 100 x0.2.1 = false]) := by kernel_rfl
theorem p26_2 (x0 : Int × Int × Int × Int × Unit) : runF tab ext26 false 23 [] 2000 [] oks26 kds26 tys26 Tryz.f26.results [true, false, false] [.code b26] (entE 0 0 sig26 (x0, ())) (entL sig26 (x0, ())) = some ([Dyn.mk Ty.bool false], [], [True, g59_0 x0.1 1 2000 = true, True, g59_0 x0.2.1 100 15000 = false, false = false]) := by kernel_rfl
theorem p26_3 (x0 : Int × Int × Int × Int × Unit) : runF tab ext26 false 23 [] 2000 [] oks26 kds26 tys26 Tryz.f26.results [false, false, false] [.code b26] (entE 0 0 sig26 (x0, ())) (entL sig26 (x0, ())) = some ([Dyn.mk Ty.bool false], [], [True, g59_0 x0.1 1 2000 = false, false = false, false = false]) := by kernel_rfl
theorem at26 (x0 : Int × Int × Int × Int × Unit) (h : P26 x0) (K : Ctx) (q : Nat → Value) : AtV Tryz.prog 26 (PostR kds26 oks26 [⟨Ty.bool, g26_0 x0⟩] [] [] q K) 23 K q [] [.code b26] (entE 0 0 sig26 (x0, ())) (entL sig26 (x0, ())) := by
  unfold P26 at h
  unfold g26_0
  by_cases b0 : (g59_0 x0.1 1 2000) = true
  · try simp only [if_pos b0] at h ⊢
    by_cases b1 : (g59_0 x0.2.1 100 15000) = true
    · try simp only [if_pos b1] at h ⊢
      by_cases b2 : (g59_0 x0.2.2.1 100 x0.2.1) = true
      · try simp only [if_pos b2] at h ⊢
        exact AtV.fin Tryz.func26 tabOk ext26Ok mixed (p26_0 x0) ⟨trivial, b0, trivial, b1, trivial, b2, trivial, trivial⟩
      · try simp only [if_neg b2] at h ⊢
        replace b2 := Bool.eq_false_iff.2 b2
        exact AtV.fin Tryz.func26 tabOk ext26Ok mixed (p26_1 x0) ⟨trivial, b0, trivial, b1, trivial, b2, trivial⟩
    · try simp only [if_neg b1] at h ⊢
      replace b1 := Bool.eq_false_iff.2 b1
      exact AtV.fin Tryz.func26 tabOk ext26Ok mixed (p26_2 x0) ⟨trivial, b0, trivial, b1, rfl, trivial⟩
  · try simp only [if_neg b0] at h ⊢
    replace b0 := Bool.eq_false_iff.2 b0
    exact AtV.fin Tryz.func26 tabOk ext26Ok mixed (p26_3 x0) ⟨trivial, b0, rfl, rfl, trivial⟩

def S26 : Am.Spec := { sig := sig26, pre := fun ⟨x0, _⟩ => P26 x0, res := fun ⟨x0, _⟩ => [⟨Ty.bool, g26_0 x0⟩], kds := kds26 }
theorem con26 : Contract Tryz.prog 26 S26 := contract_of Tryz.func26 hb26 (Nat.le_of_ble_eq_true (by kernel_rfl)) (fun ⟨x0, _⟩ h _ K q => at26 x0 h K q)


end
end Go.Proofs.YthlhnglkechkaaaGreatDoor

/- Function 88 (impl.IsName): its runs between cut points. Written by a program of this repo (gen). -/
set_option linter.unusedVariables false
set_option linter.unusedSimpArgs false
set_option maxRecDepth 100000
namespace Go.Proofs.YthlhnglkechkaaaGreatDoor
open Go Go.Am Go.Proofs
noncomputable section
def ext88 : Ext := []
theorem ext88Ok : ExtOk Tryz.prog ext88 := trivial

noncomputable def b88 : Code := bodyOf Tryz.f88
theorem hb88 : Tryz.f88.body = some b88 := by kernel_rfl
def sig88 : List AT := [AT.v (Ty.str)]
def tys88 : List Ty := [Ty.bool]
def kds88 : List RK := []
def oks88 : List AT := owns sig88
def E88_4 (v18 : Int) (x0 : ByteArray) : Env := [(16, PV.a (Atom.osl 0 Option.none)), (17, PV.a (Atom.val (Value.int .i64 (↑(List.length (bytesOf x0)) : Int)))), (18, PV.a (Atom.val (Value.int .i64 v18)))]
def L88_4 (v18 : Int) (x0 : ByteArray) : Heap := [Option.some (Arr.mk (Ty.int .u8) (bytesOf x0) false Option.none Option.none)]
mutual
def R88 : Nat → ByteArray → List Dyn → Prop
  | 0, _, _ => False
  | n + 1, x0, ds => (if (decide ((↑(ByteArray.size x0) : Int) < 1)) = true then (ds = [Dyn.mk Ty.bool false]) else (if (decide ((↑(ByteArray.size x0) : Int) > 10)) = true then (ds = [Dyn.mk Ty.bool false]) else (R88_4 n (0) (x0) ds)))
def R88_4 : Nat → Int → ByteArray → List Dyn → Prop
  | 0, _, _, _ => False
  | n + 1, v18, x0, ds => (if (decide (v18 < (↑(List.length (bytesOf x0)) : Int))) = true then ((0 ≤ v18) ∧ (v18 < (↑(List.length (bytesOf x0)) : Int)) ∧ (if (decide (List.getD (bytesOf x0) (Int.toNat v18) 0 ≥ 97)) = true then (if (decide (List.getD (bytesOf x0) (Int.toNat v18) 0 ≥ 48)) = true then (if (!decide (List.getD (bytesOf x0) (Int.toNat v18) 0 ≤ 122)) = true then (if (v18 == 0) = true then (ds = [Dyn.mk Ty.bool false]) else (if (!decide (List.getD (bytesOf x0) (Int.toNat v18) 0 ≤ 57)) = true then (ds = [Dyn.mk Ty.bool false]) else ((InR .i64 (v18 + 1)) ∧ (R88_4 n (v18 + 1) (x0) ds)))) else ((InR .i64 (v18 + 1)) ∧ (R88_4 n (v18 + 1) (x0) ds))) else (if (!decide (List.getD (bytesOf x0) (Int.toNat v18) 0 ≤ 122)) = true then (if (v18 == 0) = true then (ds = [Dyn.mk Ty.bool false]) else (ds = [Dyn.mk Ty.bool false])) else ((InR .i64 (v18 + 1)) ∧ (R88_4 n (v18 + 1) (x0) ds)))) else (if (decide (List.getD (bytesOf x0) (Int.toNat v18) 0 ≥ 48)) = true then (if (v18 == 0) = true then (ds = [Dyn.mk Ty.bool false]) else (if (!decide (List.getD (bytesOf x0) (Int.toNat v18) 0 ≤ 57)) = true then (ds = [Dyn.mk Ty.bool false]) else ((InR .i64 (v18 + 1)) ∧ (R88_4 n (v18 + 1) (x0) ds)))) else (if (v18 == 0) = true then (ds = [Dyn.mk Ty.bool false]) else (ds = [Dyn.mk Ty.bool false]))))) else (ds = [Dyn.mk Ty.bool true]))
end
theorem p88_0 (x0 : ByteArray) : runF tab ext88 false 46 [] 2000 [] oks88 kds88 tys88 Tryz.f88.results [true, true] [.code b88] (entE 0 0 sig88 (x0, ())) (entL sig88 (x0, ())) = some ([Dyn.mk Ty.bool false], [], [decide ((↑(ByteArray.size x0) : Int) < 1) = true, true = true]) := by kernel_rfl
theorem p88_1 (x0 : ByteArray) : runF tab ext88 false 46 [] 2000 [] oks88 kds88 tys88 Tryz.f88.results [false, true] [.code b88] (entE 0 0 sig88 (x0, ())) (entL sig88 (x0, ())) = some ([Dyn.mk Ty.bool false], [], [decide ((↑(ByteArray.size x0) : Int) < 1) = false, decide ((↑(ByteArray.size x0) : Int) > 10) = true]) := by kernel_rfl
theorem p88_2 (x0 : ByteArray) : Am.runN tab ext88 false 46 [] 2000 [] [] [16, 17, 18] [0] [false, false] [.code b88] (entE 0 0 sig88 (x0, ())) (entL sig88 (x0, ())) = some (cutAt b88 4, E88_4 (0) (x0), L88_4 (0) (x0), [decide ((↑(ByteArray.size x0) : Int) < 1) = false, decide ((↑(ByteArray.size x0) : Int) > 10) = false]) := by kernel_rfl
theorem p88_3 (v18 : Int) (x0 : ByteArray) : runF tab ext88 false 46 [] 2000 [] oks88 kds88 tys88 Tryz.f88.results [true, true, true, true, true, true] (cutAt b88 4) (E88_4 v18 x0) (L88_4 v18 x0) = some ([Dyn.mk Ty.bool false], [], [decide (v18 < (↑(List.length (bytesOf x0)) : Int)) = true, 0 ≤ v18, v18 < (↑(List.length (bytesOf x0)) : Int), decide (List.getD (bytesOf x0) (Int.toNat v18) 0 ≥ 97) = true, decide (List.getD (bytesOf x0) (Int.toNat v18) 0 ≥ 48) = true, (!decide (List.getD (bytesOf x0) (Int.toNat v18) 0 ≤ 122)) = true, (v18 == 0) = true, true = true]) := by kernel_rfl
theorem p88_4 (v18 : Int) (x0 : ByteArray) : runF tab ext88 false 46 [] 2000 [] oks88 kds88 tys88 Tryz.f88.results [true, true, true, true, false, true] (cutAt b88 4) (E88_4 v18 x0) (L88_4 v18 x0) = some ([Dyn.mk Ty.bool false], [], [decide (v18 < (↑(List.length (bytesOf x0)) : Int)) = true, 0 ≤ v18, v18 < (↑(List.length (bytesOf x0)) : Int), decide (List.getD (bytesOf x0) (Int.toNat v18) 0 ≥ 97) = true, decide (List.getD (bytesOf x0) (Int.toNat v18) 0 ≥ 48) = true, (!decide (List.getD (bytesOf x0) (Int.toNat v18) 0 ≤ 122)) = true, (v18 == 0) = false, (!decide (List.getD (bytesOf x0) (Int.toNat v18) 0 ≤ 57)) = true]) := by kernel_rfl
theorem p88_5 (v18 : Int) (x0 : ByteArray) : Am.runN tab ext88 false 46 [] 2000 [] [] [16, 17, 18] [0] [true, true, true, true, false, false] (cutAt b88 4) (E88_4 v18 x0) (L88_4 v18 x0) = some (cutAt b88 4, E88_4 (v18 + 1) (x0), L88_4 (v18 + 1) (x0), [decide (v18 < (↑(List.length (bytesOf x0)) : Int)) = true, 0 ≤ v18, v18 < (↑(List.length (bytesOf x0)) : Int), decide (List.getD (bytesOf x0) (Int.toNat v18) 0 ≥ 97) = true, decide (List.getD (bytesOf x0) (Int.toNat v18) 0 ≥ 48) = true, (!decide (List.getD (bytesOf x0) (Int.toNat v18) 0 ≤ 122)) = true, (v18 == 0) = false, (!decide (List.getD (bytesOf x0) (Int.toNat v18) 0 ≤ 57)) = false, InR .i64 (v18 + 1)]) := by kernel_rfl
theorem p88_6 (v18 : Int) (x0 : ByteArray) : Am.runN tab ext88 false 46 [] 2000 [] [] [16, 17, 18] [0] [true, true, true, false, false] (cutAt b88 4) (E88_4 v18 x0) (L88_4 v18 x0) = some (cutAt b88 4, E88_4 (v18 + 1) (x0), L88_4 (v18 + 1) (x0), [decide (v18 < (↑(List.length (bytesOf x0)) : Int)) = true, 0 ≤ v18, v18 < (↑(List.length (bytesOf x0)) : Int), decide (List.getD (bytesOf x0) (Int.toNat v18) 0 ≥ 97) = true, decide (List.getD (bytesOf x0) (Int.toNat v18) 0 ≥ 48) = true, (!decide (List.getD (bytesOf x0) (Int.toNat v18) 0 ≤ 122)) = false, false = false, InR .i64 (v18 + 1)]) := by kernel_rfl
theorem p88_7 (v18 : Int) (x0 : ByteArray) : runF tab ext88 false 46 [] 2000 [] oks88 kds88 tys88 Tryz.f88.results [true, true, false, true, true, true] (cutAt b88 4) (E88_4 v18 x0) (L88_4 v18 x0) = some ([Dyn.mk Ty.bool false], [], [decide (v18 < (↑(List.length (bytesOf x0)) : Int)) = true, 0 ≤ v18, v18 < (↑(List.length (bytesOf x0)) : Int), decide (List.getD (bytesOf x0) (Int.toNat v18) 0 ≥ 97) = true, decide (List.getD (bytesOf x0) (Int.toNat v18) 0 ≥ 48) = false, (!decide (List.getD (bytesOf x0) (Int.toNat v18) 0 ≤ 122)) = true, (v18 == 0) = true, true = true]) := by kernel_rfl
theorem p88_8 (v18 : Int) (x0 : ByteArray) : runF tab ext88 false 46 [] 2000 [] oks88 kds88 tys88 Tryz.f88.results [true, true, false, true, false, true] (cutAt b88 4) (E88_4 v18 x0) (L88_4 v18 x0) = some ([Dyn.mk Ty.bool false], [], [decide (v18 < (↑(List.length (bytesOf x0)) : Int)) = true, 0 ≤ v18, v18 < (↑(List.length (bytesOf x0)) : Int), decide (List.getD (bytesOf x0) (Int.toNat v18) 0 ≥ 97) = true, decide (List.getD (bytesOf x0) (Int.toNat v18) 0 ≥ 48) = false, (!decide (List.getD (bytesOf x0) (Int.toNat v18) 0 ≤ 122)) = true, (v18 == 0) = false, true = true]) := by kernel_rfl
theorem p88_9 (v18 : Int) (x0 : ByteArray) : Am.runN tab ext88 false 46 [] 2000 [] [] [16, 17, 18] [0] [true, true, false, false, false] (cutAt b88 4) (E88_4 v18 x0) (L88_4 v18 x0) = some (cutAt b88 4, E88_4 (v18 + 1) (x0), L88_4 (v18 + 1) (x0), [decide (v18 < (↑(List.length (bytesOf x0)) : Int)) = true, 0 ≤ v18, v18 < (↑(List.length (bytesOf x0)) : Int), decide (List.getD (bytesOf x0) (Int.toNat v18) 0 ≥ 97) = true, decide (List.getD (bytesOf x0) (Int.toNat v18) 0 ≥ 48) = false, (!decide (List.getD (bytesOf x0) (Int.toNat v18) 0 ≤ 122)) = false, false = false, InR .i64 (v18 + 1)]) := by kernel_rfl
theorem p88_10 (v18 : Int) (x0 : ByteArray) : runF tab ext88 false 46 [] 2000 [] oks88 kds88 tys88 Tryz.f88.results [true, false, true, true, true, true] (cutAt b88 4) (E88_4 v18 x0) (L88_4 v18 x0) = some ([Dyn.mk Ty.bool false], [], [decide (v18 < (↑(List.length (bytesOf x0)) : Int)) = true, 0 ≤ v18, v18 < (↑(List.length (bytesOf x0)) : Int), decide (List.getD (bytesOf x0) (Int.toNat v18) 0 ≥ 97) = false, decide (List.getD (bytesOf x0) (Int.toNat v18) 0 ≥ 48) = true, true = true, (v18 == 0) = true, true = true]) := by kernel_rfl
theorem p88_11 (v18 : Int) (x0 : ByteArray) : runF tab ext88 false 46 [] 2000 [] oks88 kds88 tys88 Tryz.f88.results [true, false, true, true, false, true] (cutAt b88 4) (E88_4 v18 x0) (L88_4 v18 x0) = some ([Dyn.mk Ty.bool false], [], [decide (v18 < (↑(List.length (bytesOf x0)) : Int)) = true, 0 ≤ v18, v18 < (↑(List.length (bytesOf x0)) : Int), decide (List.getD (bytesOf x0) (Int.toNat v18) 0 ≥ 97) = false, decide (List.getD (bytesOf x0) (Int.toNat v18) 0 ≥ 48) = true, true = true, (v18 == 0) = false, (!decide (List.getD (bytesOf x0) (Int.toNat v18) 0 ≤ 57)) = true]) := by kernel_rfl
theorem p88_12 (v18 : Int) (x0 : ByteArray) : Am.runN tab ext88 false 46 [] 2000 [] [] [16, 17, 18] [0] [true, false, true, true, false, false] (cutAt b88 4) (E88_4 v18 x0) (L88_4 v18 x0) = some (cutAt b88 4, E88_4 (v18 + 1) (x0), L88_4 (v18 + 1) (x0), [decide (v18 < (↑(List.length (bytesOf x0)) : Int)) = true, 0 ≤ v18, v18 < (↑(List.length (bytesOf x0)) : Int), decide (List.getD (bytesOf x0) (Int.toNat v18) 0 ≥ 97) = false, decide (List.getD (bytesOf x0) (Int.toNat v18) 0 ≥ 48) = true, true = true, (v18 == 0) = false, (!decide (List.getD (bytesOf x0) (Int.toNat v18) 0 ≤ 57)) = false, InR .i64 (v18 + 1)]) := by kernel_rfl
theorem p88_13 (v18 : Int) (x0 : ByteArray) : runF tab ext88 false 46 [] 2000 [] oks88 kds88 tys88 Tryz.f88.results [true, false, false, true, true, true] (cutAt b88 4) (E88_4 v18 x0) (L88_4 v18 x0) = some ([Dyn.mk Ty.bool false], [], [decide (v18 < (↑(List.length (bytesOf x0)) : Int)) = true, 0 ≤ v18, v18 < (↑(List.length (bytesOf x0)) : Int), decide (List.getD (bytesOf x0) (Int.toNat v18) 0 ≥ 97) = false, decide (List.getD (bytesOf x0) (Int.toNat v18) 0 ≥ 48) = false, true = true, (v18 == 0) = true, true = true]) := by kernel_rfl
theorem p88_14 (v18 : Int) (x0 : ByteArray) : runF tab ext88 false 46 [] 2000 [] oks88 kds88 tys88 Tryz.f88.results [true, false, false, true, false, true] (cutAt b88 4) (E88_4 v18 x0) (L88_4 v18 x0) = some ([Dyn.mk Ty.bool false], [], [decide (v18 < (↑(List.length (bytesOf x0)) : Int)) = true, 0 ≤ v18, v18 < (↑(List.length (bytesOf x0)) : Int), decide (List.getD (bytesOf x0) (Int.toNat v18) 0 ≥ 97) = false, decide (List.getD (bytesOf x0) (Int.toNat v18) 0 ≥ 48) = false, true = true, (v18 == 0) = false, true = true]) := by kernel_rfl
theorem p88_15 (v18 : Int) (x0 : ByteArray) : runF tab ext88 false 46 [] 2000 [] oks88 kds88 tys88 Tryz.f88.results [false] (cutAt b88 4) (E88_4 v18 x0) (L88_4 v18 x0) = some ([Dyn.mk Ty.bool true], [], [decide (v18 < (↑(List.length (bytesOf x0)) : Int)) = false]) := by kernel_rfl
theorem snd88 : ∀ n, (∀ (x0 : ByteArray) ds, R88 n x0 ds → ∀ K q, AtV Tryz.prog 88 (PostR kds88 oks88 ds [] [] q K) 46 K q [] [.code b88] (entE 0 0 sig88 (x0, ())) (entL sig88 (x0, ()))) ∧ (∀ (v18 : Int) (x0 : ByteArray) ds, R88_4 n v18 x0 ds → ∀ K q, AtV Tryz.prog 88 (PostR kds88 oks88 ds [] [] q K) 46 K q [] (cutAt b88 4) (E88_4 v18 x0) (L88_4 v18 x0)) := by
  intro n
  induction n with
  | zero => exact ⟨fun _ _ h => by simp only [R88] at h, fun _ _ _ h => by simp only [R88_4] at h⟩
  | succ n ih =>
  obtain ⟨ih, ih4⟩ := ih
  refine ⟨?_, ?_⟩
  · intro x0 ds h K q
    rw [R88] at h
    by_cases b0 : (decide ((↑(ByteArray.size x0) : Int) < 1)) = true
    · rw [if_pos b0] at h
      subst h
      exact AtV.fin Tryz.func88 tabOk ext88Ok mixed (p88_0 x0) ⟨b0, rfl, trivial⟩
    · rw [if_neg b0] at h
      replace b0 := Bool.eq_false_iff.2 b0
      by_cases b1 : (decide ((↑(ByteArray.size x0) : Int) > 10)) = true
      · rw [if_pos b1] at h
        subst h
        exact AtV.fin Tryz.func88 tabOk ext88Ok mixed (p88_1 x0) ⟨b0, b1, trivial⟩
      · rw [if_neg b1] at h
        replace b1 := Bool.eq_false_iff.2 b1
        exact AtV.runN tabOk ext88Ok mixed (p88_2 x0) ⟨b0, b1, trivial⟩ (ih4 _ _ _ h K q)

  · intro v18 x0 ds h K q
    rw [R88_4] at h
    by_cases b0 : (decide (v18 < (↑(List.length (bytesOf x0)) : Int))) = true
    · rw [if_pos b0] at h
      obtain ⟨s0, s1, h⟩ := h
      by_cases b1 : (decide (List.getD (bytesOf x0) (Int.toNat v18) 0 ≥ 97)) = true
      · rw [if_pos b1] at h
        by_cases b2 : (decide (List.getD (bytesOf x0) (Int.toNat v18) 0 ≥ 48)) = true
        · rw [if_pos b2] at h
          by_cases b3 : (!decide (List.getD (bytesOf x0) (Int.toNat v18) 0 ≤ 122)) = true
          · rw [if_pos b3] at h
            by_cases b4 : (v18 == 0) = true
            · rw [if_pos b4] at h
              subst h
              exact AtV.fin Tryz.func88 tabOk ext88Ok mixed (p88_3 v18 x0) ⟨b0, s0, s1, b1, b2, b3, b4, rfl, trivial⟩
            · rw [if_neg b4] at h
              replace b4 := Bool.eq_false_iff.2 b4
              by_cases b5 : (!decide (List.getD (bytesOf x0) (Int.toNat v18) 0 ≤ 57)) = true
              · rw [if_pos b5] at h
                subst h
                exact AtV.fin Tryz.func88 tabOk ext88Ok mixed (p88_4 v18 x0) ⟨b0, s0, s1, b1, b2, b3, b4, b5, trivial⟩
              · rw [if_neg b5] at h
                replace b5 := Bool.eq_false_iff.2 b5
                obtain ⟨s2, h⟩ := h
                exact AtV.runN tabOk ext88Ok mixed (p88_5 v18 x0) ⟨b0, s0, s1, b1, b2, b3, b4, b5, s2, trivial⟩ (ih4 _ _ _ h K q)
          · rw [if_neg b3] at h
            replace b3 := Bool.eq_false_iff.2 b3
            obtain ⟨s2, h⟩ := h
            exact AtV.runN tabOk ext88Ok mixed (p88_6 v18 x0) ⟨b0, s0, s1, b1, b2, b3, rfl, s2, trivial⟩ (ih4 _ _ _ h K q)
        · rw [if_neg b2] at h
          replace b2 := Bool.eq_false_iff.2 b2
          by_cases b3 : (!decide (List.getD (bytesOf x0) (Int.toNat v18) 0 ≤ 122)) = true
          · rw [if_pos b3] at h
            by_cases b4 : (v18 == 0) = true
            · rw [if_pos b4] at h
              subst h
              exact AtV.fin Tryz.func88 tabOk ext88Ok mixed (p88_7 v18 x0) ⟨b0, s0, s1, b1, b2, b3, b4, rfl, trivial⟩
            · rw [if_neg b4] at h
              replace b4 := Bool.eq_false_iff.2 b4
              subst h
              exact AtV.fin Tryz.func88 tabOk ext88Ok mixed (p88_8 v18 x0) ⟨b0, s0, s1, b1, b2, b3, b4, rfl, trivial⟩
          · rw [if_neg b3] at h
            replace b3 := Bool.eq_false_iff.2 b3
            obtain ⟨s2, h⟩ := h
            exact AtV.runN tabOk ext88Ok mixed (p88_9 v18 x0) ⟨b0, s0, s1, b1, b2, b3, rfl, s2, trivial⟩ (ih4 _ _ _ h K q)
      · rw [if_neg b1] at h
        replace b1 := Bool.eq_false_iff.2 b1
        by_cases b2 : (decide (List.getD (bytesOf x0) (Int.toNat v18) 0 ≥ 48)) = true
        · rw [if_pos b2] at h
          by_cases b3 : (v18 == 0) = true
          · rw [if_pos b3] at h
            subst h
            exact AtV.fin Tryz.func88 tabOk ext88Ok mixed (p88_10 v18 x0) ⟨b0, s0, s1, b1, b2, rfl, b3, rfl, trivial⟩
          · rw [if_neg b3] at h
            replace b3 := Bool.eq_false_iff.2 b3
            by_cases b4 : (!decide (List.getD (bytesOf x0) (Int.toNat v18) 0 ≤ 57)) = true
            · rw [if_pos b4] at h
              subst h
              exact AtV.fin Tryz.func88 tabOk ext88Ok mixed (p88_11 v18 x0) ⟨b0, s0, s1, b1, b2, rfl, b3, b4, trivial⟩
            · rw [if_neg b4] at h
              replace b4 := Bool.eq_false_iff.2 b4
              obtain ⟨s2, h⟩ := h
              exact AtV.runN tabOk ext88Ok mixed (p88_12 v18 x0) ⟨b0, s0, s1, b1, b2, rfl, b3, b4, s2, trivial⟩ (ih4 _ _ _ h K q)
        · rw [if_neg b2] at h
          replace b2 := Bool.eq_false_iff.2 b2
          by_cases b3 : (v18 == 0) = true
          · rw [if_pos b3] at h
            subst h
            exact AtV.fin Tryz.func88 tabOk ext88Ok mixed (p88_13 v18 x0) ⟨b0, s0, s1, b1, b2, rfl, b3, rfl, trivial⟩
          · rw [if_neg b3] at h
            replace b3 := Bool.eq_false_iff.2 b3
            subst h
            exact AtV.fin Tryz.func88 tabOk ext88Ok mixed (p88_14 v18 x0) ⟨b0, s0, s1, b1, b2, rfl, b3, rfl, trivial⟩
    · rw [if_neg b0] at h
      replace b0 := Bool.eq_false_iff.2 b0
      subst h
      exact AtV.fin Tryz.func88 tabOk ext88Ok mixed (p88_15 v18 x0) ⟨b0, trivial⟩



def ok88 (i : Nat) (b : Int) : Bool := (decide (97 ≤ b) && decide (b ≤ 122)) || (!(i == 0) && (decide (48 ≤ b) && decide (b ≤ 57)))
def g88_0 (x0 : ByteArray) : Bool := decide (1 ≤ x0.size) && decide (x0.size ≤ 10) && allI ok88 0 (bytesOf x0)
def P88 (x0 : ByteArray) : Prop := True

theorem step88 (n i : Nat) (x0 : ByteArray) (hw : Wf .str x0) (hi : i < (bytesOf x0).length) (ds : List Dyn) :
    R88_4 (n + 1) (i : Int) x0 ds ↔ (if ok88 i ((bytesOf x0).getD i 0) = true then R88_4 n ((i : Int) + 1) x0 ds else ds = [⟨.bool, false⟩]) := by
  have hu := inR_up (xs := bytesOf x0) (by rw [bytesOf_length]; exact hw) hi
  rw [R88_4, if_pos (by simp; omega)]
  simp only [Int.toNat_natCast]
  have hb : (0 : Int) ≤ (i : Int) ∧ (i : Int) < ((bytesOf x0).length : Int) := by omega
  have hz : ((i : Int) == 0) = (i == 0) := by
    cases i with
    | zero => rfl
    | succ k => simp; omega
  simp only [hz, ok88, hu, true_and, hb.1, hb.2, ge_iff_le]
  by_cases h1 : (97 : Int) ≤ (bytesOf x0).getD i 0 <;> by_cases h2 : (bytesOf x0).getD i 0 ≤ 122 <;> by_cases h3 : (48 : Int) ≤ (bytesOf x0).getD i 0 <;> by_cases h4 : (bytesOf x0).getD i 0 ≤ 57 <;> rcases Bool.eq_false_or_eq_true (i == 0) with e0 | e0 <;> first | (exfalso; omega) | simp only [h1, h2, h3, h4, e0, decide_true, decide_false, Bool.not_true, Bool.not_false, Bool.true_and, Bool.false_and, Bool.and_true, Bool.and_false, Bool.true_or, Bool.or_true, Bool.or_false, Bool.false_or, if_true, if_false, Bool.false_eq_true]

theorem top88 (x0 : ByteArray) (hw : Wf .str x0) : R88 (x0.size + 1 + 1) x0 [⟨.bool, g88_0 x0⟩] := by
  have hl := bytesOf_length x0
  rw [R88]
  by_cases h0 : (x0.size : Int) < 1
  · rw [if_pos (by simpa using h0)]
    have : ¬ 1 ≤ x0.size := by omega
    simp [g88_0, this]
  · rw [if_neg (by simpa using h0)]
    by_cases h1 : (x0.size : Int) > 10
    · rw [if_pos (by simpa using h1)]
      have : ¬ x0.size ≤ 10 := by omega
      simp [g88_0, this]
    · rw [if_neg (by simpa using h1)]
      have key := loop_testI (bytesOf x0) 0 ok88 [(⟨.bool, false⟩ : Dyn)] [⟨.bool, true⟩] (fun n i ds => R88_4 n i x0 ds) (fun n => ?_) (fun n i hi hok ds hr => ?_) (fun n i hi hok => ?_)
      · rw [hl] at key
        have e : g88_0 x0 = allI ok88 0 (bytesOf x0) := by
          have a : 1 ≤ x0.size := by omega
          have b : x0.size ≤ 10 := by omega
          simp [g88_0, a, b]
        rw [e]
        cases h : allI ok88 0 (bytesOf x0) with
        | true => rw [if_pos h] at key; exact key
        | false => rw [if_neg (by rw [h]; simp)] at key; exact key
      · show R88_4 (n + 1) ((bytesOf x0).length : Int) x0 _
        rw [R88_4, if_neg (by simp)]
      · exact (step88 n i x0 hw hi ds).2 (by rw [if_pos hok]; exact hr)
      · exact (step88 n i x0 hw hi _).2 (by rw [if_neg (by rw [hok]; simp)])

def S88 : Am.Spec := { sig := sig88, pre := fun ⟨x0, _⟩ => P88 x0, res := fun ⟨x0, _⟩ => [⟨Ty.bool, g88_0 x0⟩] }
theorem con88 : Contract Tryz.prog 88 S88 := contract_of Tryz.func88 hb88 (Nat.le_of_ble_eq_true (by kernel_rfl)) (fun ⟨x0, _⟩ h hwf K q =>
  (snd88 _).1 x0 _ (top88 x0 hwf.1) K q)

end
end Go.Proofs.YthlhnglkechkaaaGreatDoor

/- Function 62 (impl.isKilos): its runs between cut points. Written by a program of this repo (gen). -/
set_option linter.unusedVariables false
set_option linter.unusedSimpArgs false
set_option maxRecDepth 100000
namespace Go.Proofs.YthlhnglkechkaaaGreatDoor
open Go Go.Am Go.Proofs
noncomputable section
def ext62 : Ext := [(59, S59)]
theorem call62_59 : Callable Tryz.prog 59 := ⟨Tryz.f59, Tryz.func59, by kernel_rfl, by kernel_rfl⟩
theorem ext62Ok : ExtOk Tryz.prog ext62 := ⟨⟨call62_59, con59⟩, trivial⟩

noncomputable def b62 : Code := bodyOf Tryz.f62
theorem hb62 : Tryz.f62.body = some b62 := by kernel_rfl
def sig62 : List AT := [AT.v (Ty.int .i64)]
def tys62 : List Ty := [Ty.bool]
def kds62 : List RK := []
def oks62 : List AT := owns sig62
def P62 (x0 : Int) : Prop := True
def g62_0 (x0 : Int) : Bool := g59_0 x0 0 100000
theorem p62_0 (x0 : Int) : runF tab ext62 false 5 [] 2000 [] oks62 kds62 tys62 Tryz.f62.results [] [.code b62] (entE 0 0 sig62 (x0, ())) (entL sig62 (x0, ())) = some ([Dyn.mk Ty.bool (g59_0 x0 0 100000)], [], [True]) := by kernel_rfl
theorem at62 (x0 : Int) (h : P62 x0) (K : Ctx) (q : Nat → Value) : AtV Tryz.prog 62 (PostR kds62 oks62 [⟨Ty.bool, g62_0 x0⟩] [] [] q K) 5 K q [] [.code b62] (entE 0 0 sig62 (x0, ())) (entL sig62 (x0, ())) := by
  unfold P62 at h
  unfold g62_0
  exact AtV.fin Tryz.func62 tabOk ext62Ok mixed (p62_0 x0) ⟨trivial, trivial⟩

def S62 : Am.Spec := { sig := sig62, pre := fun ⟨x0, _⟩ => P62 x0, res := fun ⟨x0, _⟩ => [⟨Ty.bool, g62_0 x0⟩], kds := kds62 }
theorem con62 : Contract Tryz.prog 62 S62 := contract_of Tryz.func62 hb62 (Nat.le_of_ble_eq_true (by kernel_rfl)) (fun ⟨x0, _⟩ h _ K q => at62 x0 h K q)


end
end Go.Proofs.YthlhnglkechkaaaGreatDoor

/- Function 61 (impl.validGroup): its runs between cut points. Written by a program of this repo (gen). -/
set_option linter.unusedVariables false
set_option linter.unusedSimpArgs false
set_option maxRecDepth 100000
namespace Go.Proofs.YthlhnglkechkaaaGreatDoor
open Go Go.Am Go.Proofs
noncomputable section
def ext61 : Ext := [(88, S88), (59, S59), (62, S62)]
theorem call61_88 : Callable Tryz.prog 88 := ⟨Tryz.f88, Tryz.func88, by kernel_rfl, by kernel_rfl⟩
theorem call61_59 : Callable Tryz.prog 59 := ⟨Tryz.f59, Tryz.func59, by kernel_rfl, by kernel_rfl⟩
theorem call61_62 : Callable Tryz.prog 62 := ⟨Tryz.f62, Tryz.func62, by kernel_rfl, by kernel_rfl⟩
theorem ext61Ok : ExtOk Tryz.prog ext61 := ⟨⟨call61_88, con88⟩, ⟨call61_59, con59⟩, ⟨call61_62, con62⟩, trivial⟩

noncomputable def b61 : Code := bodyOf Tryz.f61
theorem hb61 : Tryz.f61.body = some b61 := by kernel_rfl
def sig61 : List AT := [AT.v (Ty.cons Ty.str (Ty.cons (Ty.int .i64) (Ty.cons (Ty.int .i64) (Ty.cons (Ty.int .i64) Ty.unit))))]
def tys61 : List Ty := [Ty.bool]
def kds61 : List RK := []
def oks61 : List AT := owns sig61
def P61 (x0 : ByteArray × Int × Int × Int × Unit) : Prop := True
def g61_0 (x0 : ByteArray × Int × Int × Int × Unit) : Bool := (if (g88_0 x0.1) = true then (if (g59_0 x0.2.1 1 200) = true then (if (g59_0 x0.2.2.1 0 40) = true then g62_0 x0.2.2.2.1 else false) else false) else false)
theorem p61_0 (x0 : ByteArray × Int × Int × Int × Unit) : runF tab ext61 false 21 [] 2000 [] oks61 kds61 tys61 Tryz.f61.results [true, true, true] [.code b61] (entE 0 0 sig61 (x0, ())) (entL sig61 (x0, ())) = some ([Dyn.mk Ty.bool (g62_0 x0.2.2.2.1)], [], [True, g88_0 x0.1 = true, True, g59_0 x0.2.1 1 200 = true, True, g59_0 x0.2.2.1 0 40 = true, True]) := by kernel_rfl
theorem p61_1 (x0 : ByteArray × Int × Int × Int × Unit) : runF tab ext61 false 21 [] 2000 [] oks61 kds61 tys61 Tryz.f61.results [true, true, false] [.code b61] (entE 0 0 sig61 (x0, ())) (entL sig61 (x0, ())) = some ([Dyn.mk Ty.bool false], [], [True, g88_0 x0.1 = true, True, g59_0 x0.2.1 1 200 = true, True, g59_0 x0.2.2.1 0 40 = false]) := by kernel_rfl
theorem p61_2 (x0 : ByteArray × Int × Int × Int × Unit) : runF tab ext61 false 21 [] 2000 [] oks61 kds61 tys61 Tryz.f61.results [true, false, false] [.code b61] (entE 0 0 sig61 (x0, ())) (entL sig61 (x0, ())) = some ([Dyn.mk Ty.bool false], [], [True, g88_0 x0.1 = true, True, g59_0 x0.2.1 1 200 = false, false = false]) := by kernel_rfl
theorem p61_3 (x0 : ByteArray × Int × Int × Int × Unit) : runF tab ext61 false 21 [] 2000 [] oks61 kds61 tys61 Tryz.f61.results [false, false, false] [.code b61] (entE 0 0 sig61 (x0, ())) (entL sig61 (x0, ())) = some ([Dyn.mk Ty.bool false], [], [True, g88_0 x0.1 = false, false = false, false = false]) := by kernel_rfl
theorem at61 (x0 : ByteArray × Int × Int × Int × Unit) (h : P61 x0) (K : Ctx) (q : Nat → Value) : AtV Tryz.prog 61 (PostR kds61 oks61 [⟨Ty.bool, g61_0 x0⟩] [] [] q K) 21 K q [] [.code b61] (entE 0 0 sig61 (x0, ())) (entL sig61 (x0, ())) := by
  unfold P61 at h
  unfold g61_0
  by_cases b0 : (g88_0 x0.1) = true
  · try simp only [if_pos b0] at h ⊢
    by_cases b1 : (g59_0 x0.2.1 1 200) = true
    · try simp only [if_pos b1] at h ⊢
      by_cases b2 : (g59_0 x0.2.2.1 0 40) = true
      · try simp only [if_pos b2] at h ⊢
        exact AtV.fin Tryz.func61 tabOk ext61Ok mixed (p61_0 x0) ⟨trivial, b0, trivial, b1, trivial, b2, trivial, trivial⟩
      · try simp only [if_neg b2] at h ⊢
        replace b2 := Bool.eq_false_iff.2 b2
        exact AtV.fin Tryz.func61 tabOk ext61Ok mixed (p61_1 x0) ⟨trivial, b0, trivial, b1, trivial, b2, trivial⟩
    · try simp only [if_neg b1] at h ⊢
      replace b1 := Bool.eq_false_iff.2 b1
      exact AtV.fin Tryz.func61 tabOk ext61Ok mixed (p61_2 x0) ⟨trivial, b0, trivial, b1, rfl, trivial⟩
  · try simp only [if_neg b0] at h ⊢
    replace b0 := Bool.eq_false_iff.2 b0
    exact AtV.fin Tryz.func61 tabOk ext61Ok mixed (p61_3 x0) ⟨trivial, b0, rfl, rfl, trivial⟩

def S61 : Am.Spec := { sig := sig61, pre := fun ⟨x0, _⟩ => P61 x0, res := fun ⟨x0, _⟩ => [⟨Ty.bool, g61_0 x0⟩], kds := kds61 }
theorem con61 : Contract Tryz.prog 61 S61 := contract_of Tryz.func61 hb61 (Nat.le_of_ble_eq_true (by kernel_rfl)) (fun ⟨x0, _⟩ h _ K q => at61 x0 h K q)


end
end Go.Proofs.YthlhnglkechkaaaGreatDoor

/- Function 27 (impl.ValidGroups): its runs between cut points. Written by a program of this repo (gen). -/
set_option linter.unusedVariables false
set_option linter.unusedSimpArgs false
set_option maxRecDepth 100000
namespace Go.Proofs.YthlhnglkechkaaaGreatDoor
open Go Go.Am Go.Proofs
noncomputable section
def ext27 : Ext := [(61, S61)]
theorem call27_61 : Callable Tryz.prog 61 := ⟨Tryz.f61, Tryz.func61, by kernel_rfl, by kernel_rfl⟩
theorem ext27Ok : ExtOk Tryz.prog ext27 := ⟨⟨call27_61, con61⟩, trivial⟩

noncomputable def b27 : Code := bodyOf Tryz.f27
theorem hb27 : Tryz.f27.body = some b27 := by kernel_rfl
def sig27 : List AT := [AT.v (Ty.sl (Ty.cons Ty.str (Ty.cons (Ty.int .i64) (Ty.cons (Ty.int .i64) (Ty.cons (Ty.int .i64) Ty.unit)))))]
def tys27 : List Ty := [Ty.bool]
def kds27 : List RK := []
def oks27 : List AT := owns sig27
def E27_2 (v7 : Int) (x0 : List TyB1) : Env := [(0, PV.a (Atom.sl (Ty.cons Ty.str (Ty.cons (Ty.int .i64) (Ty.cons (Ty.int .i64) (Ty.cons (Ty.int .i64) Ty.unit)))) x0)), (5, PV.a (Atom.sl (Ty.cons Ty.str (Ty.cons (Ty.int .i64) (Ty.cons (Ty.int .i64) (Ty.cons (Ty.int .i64) Ty.unit)))) x0)), (6, PV.a (Atom.val (Value.int .i64 (↑(List.length x0) : Int)))), (7, PV.a (Atom.val (Value.int .i64 v7)))]
def L27_2 (v7 : Int) (x0 : List TyB1) : Heap := []
mutual
def R27 : Nat → List TyB1 → List Dyn → Prop
  | 0, _, _ => False
  | n + 1, x0, ds => (R27_2 n (0) (x0) ds)
def R27_2 : Nat → Int → List TyB1 → List Dyn → Prop
  | 0, _, _, _ => False
  | n + 1, v7, x0, ds => (if (decide (v7 < (↑(List.length x0) : Int))) = true then ((0 ≤ v7) ∧ (v7 < (↑(List.length x0) : Int)) ∧ (if (!g61_0 (List.getD x0 (Int.toNat v7) (ByteArray.empty, 0, 0, 0, ()))) = true then (ds = [Dyn.mk Ty.bool false]) else (if (decide (v7 > 0)) = true then ((InR .i64 (v7 - 1)) ∧ ((0 ≤ v7 - 1) ∧ (v7 - 1 < (↑(List.length x0) : Int)) ∧ (if (Op.bytesLess (ByteArray.toList (List.getD x0 (Int.toNat v7) (ByteArray.empty, 0, 0, 0, ())).1) (ByteArray.toList (List.getD x0 (Int.toNat (v7 - 1)) (ByteArray.empty, 0, 0, 0, ())).1) || ByteArray.toList (List.getD x0 (Int.toNat v7) (ByteArray.empty, 0, 0, 0, ())).1 == ByteArray.toList (List.getD x0 (Int.toNat (v7 - 1)) (ByteArray.empty, 0, 0, 0, ())).1) = true then (ds = [Dyn.mk Ty.bool false]) else ((InR .i64 (v7 + 1)) ∧ (R27_2 n (v7 + 1) (x0) ds))))) else ((InR .i64 (v7 + 1)) ∧ (R27_2 n (v7 + 1) (x0) ds))))) else (ds = [Dyn.mk Ty.bool (decide ((↑(List.length x0) : Int) ≤ 12))]))
end
theorem p27_0 (x0 : List TyB1) : Am.runN tab ext27 false 34 [] 2000 [] [] [0, 5, 6, 7] [] [] [.code b27] (entE 0 0 sig27 (x0, ())) (entL sig27 (x0, ())) = some (cutAt b27 2, E27_2 (0) (x0), L27_2 (0) (x0), []) := by kernel_rfl
theorem p27_1 (v7 : Int) (x0 : List TyB1) : runF tab ext27 false 34 [] 2000 [] oks27 kds27 tys27 Tryz.f27.results [true, true, true] (cutAt b27 2) (E27_2 v7 x0) (L27_2 v7 x0) = some ([Dyn.mk Ty.bool false], [], [decide (v7 < (↑(List.length x0) : Int)) = true, 0 ≤ v7, v7 < (↑(List.length x0) : Int), True, (!g61_0 (List.getD x0 (Int.toNat v7) (ByteArray.empty, 0, 0, 0, ()))) = true, true = true]) := by kernel_rfl
theorem p27_2 (v7 : Int) (x0 : List TyB1) : runF tab ext27 false 34 [] 2000 [] oks27 kds27 tys27 Tryz.f27.results [true, false, true, true] (cutAt b27 2) (E27_2 v7 x0) (L27_2 v7 x0) = some ([Dyn.mk Ty.bool false], [], [decide (v7 < (↑(List.length x0) : Int)) = true, 0 ≤ v7, v7 < (↑(List.length x0) : Int), True, (!g61_0 (List.getD x0 (Int.toNat v7) (ByteArray.empty, 0, 0, 0, ()))) = false, decide (v7 > 0) = true, InR .i64 (v7 - 1), 0 ≤ v7 - 1, v7 - 1 < (↑(List.length x0) : Int), (Op.bytesLess (ByteArray.toList (List.getD x0 (Int.toNat v7) (ByteArray.empty, 0, 0, 0, ())).1) (ByteArray.toList (List.getD x0 (Int.toNat (v7 - 1)) (ByteArray.empty, 0, 0, 0, ())).1) || ByteArray.toList (List.getD x0 (Int.toNat v7) (ByteArray.empty, 0, 0, 0, ())).1 == ByteArray.toList (List.getD x0 (Int.toNat (v7 - 1)) (ByteArray.empty, 0, 0, 0, ())).1) = true]) := by kernel_rfl
theorem p27_3 (v7 : Int) (x0 : List TyB1) : Am.runN tab ext27 false 34 [] 2000 [] [] [0, 5, 6, 7] [] [true, false, true, false] (cutAt b27 2) (E27_2 v7 x0) (L27_2 v7 x0) = some (cutAt b27 2, E27_2 (v7 + 1) (x0), L27_2 (v7 + 1) (x0), [decide (v7 < (↑(List.length x0) : Int)) = true, 0 ≤ v7, v7 < (↑(List.length x0) : Int), True, (!g61_0 (List.getD x0 (Int.toNat v7) (ByteArray.empty, 0, 0, 0, ()))) = false, decide (v7 > 0) = true, InR .i64 (v7 - 1), 0 ≤ v7 - 1, v7 - 1 < (↑(List.length x0) : Int), (Op.bytesLess (ByteArray.toList (List.getD x0 (Int.toNat v7) (ByteArray.empty, 0, 0, 0, ())).1) (ByteArray.toList (List.getD x0 (Int.toNat (v7 - 1)) (ByteArray.empty, 0, 0, 0, ())).1) || ByteArray.toList (List.getD x0 (Int.toNat v7) (ByteArray.empty, 0, 0, 0, ())).1 == ByteArray.toList (List.getD x0 (Int.toNat (v7 - 1)) (ByteArray.empty, 0, 0, 0, ())).1) = false, InR .i64 (v7 + 1)]) := by kernel_rfl
theorem p27_4 (v7 : Int) (x0 : List TyB1) : Am.runN tab ext27 false 34 [] 2000 [] [] [0, 5, 6, 7] [] [true, false, false, false] (cutAt b27 2) (E27_2 v7 x0) (L27_2 v7 x0) = some (cutAt b27 2, E27_2 (v7 + 1) (x0), L27_2 (v7 + 1) (x0), [decide (v7 < (↑(List.length x0) : Int)) = true, 0 ≤ v7, v7 < (↑(List.length x0) : Int), True, (!g61_0 (List.getD x0 (Int.toNat v7) (ByteArray.empty, 0, 0, 0, ()))) = false, decide (v7 > 0) = false, false = false, InR .i64 (v7 + 1)]) := by kernel_rfl
theorem p27_5 (v7 : Int) (x0 : List TyB1) : runF tab ext27 false 34 [] 2000 [] oks27 kds27 tys27 Tryz.f27.results [false] (cutAt b27 2) (E27_2 v7 x0) (L27_2 v7 x0) = some ([Dyn.mk Ty.bool (decide ((↑(List.length x0) : Int) ≤ 12))], [], [decide (v7 < (↑(List.length x0) : Int)) = false]) := by kernel_rfl
theorem snd27 : ∀ n, (∀ (x0 : List TyB1) ds, R27 n x0 ds → ∀ K q, AtV Tryz.prog 27 (PostR kds27 oks27 ds [] [] q K) 34 K q [] [.code b27] (entE 0 0 sig27 (x0, ())) (entL sig27 (x0, ()))) ∧ (∀ (v7 : Int) (x0 : List TyB1) ds, R27_2 n v7 x0 ds → ∀ K q, AtV Tryz.prog 27 (PostR kds27 oks27 ds [] [] q K) 34 K q [] (cutAt b27 2) (E27_2 v7 x0) (L27_2 v7 x0)) := by
  intro n
  induction n with
  | zero => exact ⟨fun _ _ h => by simp only [R27] at h, fun _ _ _ h => by simp only [R27_2] at h⟩
  | succ n ih =>
  obtain ⟨ih, ih2⟩ := ih
  refine ⟨?_, ?_⟩
  · intro x0 ds h K q
    rw [R27] at h
    exact AtV.runN tabOk ext27Ok mixed (p27_0 x0) trivial (ih2 _ _ _ h K q)

  · intro v7 x0 ds h K q
    rw [R27_2] at h
    by_cases b0 : (decide (v7 < (↑(List.length x0) : Int))) = true
    · rw [if_pos b0] at h
      obtain ⟨s0, s1, h⟩ := h
      by_cases b1 : (!g61_0 (List.getD x0 (Int.toNat v7) (ByteArray.empty, 0, 0, 0, ()))) = true
      · rw [if_pos b1] at h
        subst h
        exact AtV.fin Tryz.func27 tabOk ext27Ok mixed (p27_1 v7 x0) ⟨b0, s0, s1, trivial, b1, rfl, trivial⟩
      · rw [if_neg b1] at h
        replace b1 := Bool.eq_false_iff.2 b1
        by_cases b2 : (decide (v7 > 0)) = true
        · rw [if_pos b2] at h
          obtain ⟨s2, h⟩ := h
          obtain ⟨s3, s4, h⟩ := h
          by_cases b3 : (Op.bytesLess (ByteArray.toList (List.getD x0 (Int.toNat v7) (ByteArray.empty, 0, 0, 0, ())).1) (ByteArray.toList (List.getD x0 (Int.toNat (v7 - 1)) (ByteArray.empty, 0, 0, 0, ())).1) || ByteArray.toList (List.getD x0 (Int.toNat v7) (ByteArray.empty, 0, 0, 0, ())).1 == ByteArray.toList (List.getD x0 (Int.toNat (v7 - 1)) (ByteArray.empty, 0, 0, 0, ())).1) = true
          · rw [if_pos b3] at h
            subst h
            exact AtV.fin Tryz.func27 tabOk ext27Ok mixed (p27_2 v7 x0) ⟨b0, s0, s1, trivial, b1, b2, s2, s3, s4, b3, trivial⟩
          · rw [if_neg b3] at h
            replace b3 := Bool.eq_false_iff.2 b3
            obtain ⟨s5, h⟩ := h
            exact AtV.runN tabOk ext27Ok mixed (p27_3 v7 x0) ⟨b0, s0, s1, trivial, b1, b2, s2, s3, s4, b3, s5, trivial⟩ (ih2 _ _ _ h K q)
        · rw [if_neg b2] at h
          replace b2 := Bool.eq_false_iff.2 b2
          obtain ⟨s2, h⟩ := h
          exact AtV.runN tabOk ext27Ok mixed (p27_4 v7 x0) ⟨b0, s0, s1, trivial, b1, b2, rfl, s2, trivial⟩ (ih2 _ _ _ h K q)
    · rw [if_neg b0] at h
      replace b0 := Bool.eq_false_iff.2 b0
      subst h
      exact AtV.fin Tryz.func27 tabOk ext27Ok mixed (p27_5 v7 x0) ⟨b0, trivial⟩



def ok27 (x0 : List TyB1) (i : Nat) (x : TyB1) : Bool :=
  g61_0 x && (i == 0 || !(Op.bytesLess (ByteArray.toList x.1) (ByteArray.toList (x0.getD (i - 1) (ByteArray.empty, (0 : Int), (0 : Int), (0 : Int), ())).1) || ByteArray.toList x.1 == ByteArray.toList (x0.getD (i - 1) (ByteArray.empty, (0 : Int), (0 : Int), (0 : Int), ())).1))
def g27_0 (x0 : List TyB1) : Bool := allI (ok27 x0) 0 x0 && decide (x0.length ≤ 12)
def P27 (x0 : List TyB1) : Prop := True

theorem step27 (n i : Nat) (x0 : List TyB1) (hm : x0.length ≤ maxLen) (hi : i < x0.length) (ds : List Dyn) :
    (if ok27 x0 i (x0.getD i (ByteArray.empty, (0 : Int), (0 : Int), (0 : Int), ())) = true then R27_2 n ((i : Int) + 1) x0 ds else ds = [⟨.bool, false⟩]) → R27_2 (n + 1) (i : Int) x0 ds := by
  intro h
  have hu := inR_up hm hi
  rw [R27_2, if_pos (by simp; omega)]
  refine ⟨by omega, by omega, ?_⟩
  simp only [Int.toNat_natCast]
  unfold ok27 at h
  by_cases h1 : g61_0 (x0.getD i (ByteArray.empty, (0 : Int), (0 : Int), (0 : Int), ())) = true
  case neg =>
    have h1 := Bool.eq_false_iff.2 h1
    rw [h1] at h
    rw [if_pos (by rw [h1]; rfl)]
    simpa using h
  case pos =>
    rw [h1] at h
    rw [if_neg (by rw [h1]; simp)]
    by_cases h0 : (i : Int) > 0
    · rw [if_pos (by simpa using h0)]
      have hi0 : (i == 0) = false := by simp; omega
      have e : ((i : Int) - 1).toNat = i - 1 := by omega
      refine ⟨by rw [i64_iff]; have : maxLen ≤ 9223372036854775807 := by decide
                 omega, by omega, by omega, ?_⟩
      rw [e]
      by_cases h2 : (Op.bytesLess (ByteArray.toList (x0.getD i (ByteArray.empty, (0 : Int), (0 : Int), (0 : Int), ())).1) (ByteArray.toList (x0.getD (i - 1) (ByteArray.empty, (0 : Int), (0 : Int), (0 : Int), ())).1) || ByteArray.toList (x0.getD i (ByteArray.empty, (0 : Int), (0 : Int), (0 : Int), ())).1 == ByteArray.toList (x0.getD (i - 1) (ByteArray.empty, (0 : Int), (0 : Int), (0 : Int), ())).1) = true
      · rw [if_pos h2]
        rw [hi0, h2] at h
        simpa using h
      · rw [if_neg h2]
        rw [hi0, Bool.eq_false_iff.2 h2] at h
        exact ⟨hu, by simpa using h⟩
    · rw [if_neg (by simpa using h0)]
      have hi0 : (i == 0) = true := by simp; omega
      rw [hi0] at h
      exact ⟨hu, by simpa using h⟩

theorem top27 (x0 : List TyB1) (hw : x0.length ≤ maxLen) : R27 (x0.length + 1 + 1) x0 [⟨.bool, g27_0 x0⟩] := by
  rw [R27]
  have key := loop_testI x0 (ByteArray.empty, (0 : Int), (0 : Int), (0 : Int), ()) (ok27 x0) [(⟨.bool, false⟩ : Dyn)] [⟨.bool, decide (x0.length ≤ 12)⟩] (fun n i ds => R27_2 n i x0 ds) (fun n => ?_) (fun n i hi hok ds hr => ?_) (fun n i hi hok => ?_)
  · unfold g27_0
    cases h : allI (ok27 x0) 0 x0 with
    | true => rw [if_pos h] at key; simpa using key
    | false => rw [if_neg (by rw [h]; simp)] at key; simpa using key
  · rw [R27_2, if_neg (by simp)]
    have hc : decide ((x0.length : Int) ≤ 12) = decide (x0.length ≤ 12) := by
      congr 1; exact propext ⟨fun h => by omega, fun h => by omega⟩
    rw [hc]
  · exact step27 n i x0 hw hi ds (by rw [if_pos hok]; exact hr)
  · exact step27 n i x0 hw hi _ (by rw [if_neg (by rw [hok]; simp)])

def S27 : Am.Spec := { sig := sig27, pre := fun ⟨x0, _⟩ => P27 x0, res := fun ⟨x0, _⟩ => [⟨Ty.bool, g27_0 x0⟩] }
theorem con27 : Contract Tryz.prog 27 S27 := contract_of Tryz.func27 hb27 (Nat.le_of_ble_eq_true (by kernel_rfl)) (fun ⟨x0, _⟩ h hwf K q =>
  (snd27 _).1 x0 _ (top27 x0 hwf.1.1) K q)

end
end Go.Proofs.YthlhnglkechkaaaGreatDoor

/- Function 28 (impl.ValidRoom): its runs between cut points. Written by a program of this repo (gen). -/
set_option linter.unusedVariables false
set_option linter.unusedSimpArgs false
set_option maxRecDepth 100000
namespace Go.Proofs.YthlhnglkechkaaaGreatDoor
open Go Go.Am Go.Proofs
noncomputable section
def ext28 : Ext := [(59, S59), (62, S62)]
theorem call28_59 : Callable Tryz.prog 59 := ⟨Tryz.f59, Tryz.func59, by kernel_rfl, by kernel_rfl⟩
theorem call28_62 : Callable Tryz.prog 62 := ⟨Tryz.f62, Tryz.func62, by kernel_rfl, by kernel_rfl⟩
theorem ext28Ok : ExtOk Tryz.prog ext28 := ⟨⟨call28_59, con59⟩, ⟨call28_62, con62⟩, trivial⟩

noncomputable def b28 : Code := bodyOf Tryz.f28
theorem hb28 : Tryz.f28.body = some b28 := by kernel_rfl
def sig28 : List AT := [AT.v (Ty.cons (Ty.int .i64) (Ty.cons (Ty.int .i64) (Ty.cons (Ty.int .i64) Ty.unit)))]
def tys28 : List Ty := [Ty.bool]
def kds28 : List RK := []
def oks28 : List AT := owns sig28
def P28 (x0 : Int × Int × Int × Unit) : Prop := True
def g28_0 (x0 : Int × Int × Int × Unit) : Bool := (if (g59_0 x0.1 0 200) = true then (if (g59_0 x0.2.1 0 40) = true then g62_0 x0.2.2.1 else false) else false)
theorem p28_0 (x0 : Int × Int × Int × Unit) : runF tab ext28 false 16 [] 2000 [] oks28 kds28 tys28 Tryz.f28.results [true, true] [.code b28] (entE 0 0 sig28 (x0, ())) (entL sig28 (x0, ())) = some ([Dyn.mk Ty.bool (g62_0 x0.2.2.1)], [], [True, g59_0 x0.1 0 200 = true, True, g59_0 x0.2.1 0 40 = true, True]) := by kernel_rfl
theorem p28_1 (x0 : Int × Int × Int × Unit) : runF tab ext28 false 16 [] 2000 [] oks28 kds28 tys28 Tryz.f28.results [true, false] [.code b28] (entE 0 0 sig28 (x0, ())) (entL sig28 (x0, ())) = some ([Dyn.mk Ty.bool false], [], [True, g59_0 x0.1 0 200 = true, True, g59_0 x0.2.1 0 40 = false]) := by kernel_rfl
theorem p28_2 (x0 : Int × Int × Int × Unit) : runF tab ext28 false 16 [] 2000 [] oks28 kds28 tys28 Tryz.f28.results [false, false] [.code b28] (entE 0 0 sig28 (x0, ())) (entL sig28 (x0, ())) = some ([Dyn.mk Ty.bool false], [], [True, g59_0 x0.1 0 200 = false, false = false]) := by kernel_rfl
theorem at28 (x0 : Int × Int × Int × Unit) (h : P28 x0) (K : Ctx) (q : Nat → Value) : AtV Tryz.prog 28 (PostR kds28 oks28 [⟨Ty.bool, g28_0 x0⟩] [] [] q K) 16 K q [] [.code b28] (entE 0 0 sig28 (x0, ())) (entL sig28 (x0, ())) := by
  unfold P28 at h
  unfold g28_0
  by_cases b0 : (g59_0 x0.1 0 200) = true
  · try simp only [if_pos b0] at h ⊢
    by_cases b1 : (g59_0 x0.2.1 0 40) = true
    · try simp only [if_pos b1] at h ⊢
      exact AtV.fin Tryz.func28 tabOk ext28Ok mixed (p28_0 x0) ⟨trivial, b0, trivial, b1, trivial, trivial⟩
    · try simp only [if_neg b1] at h ⊢
      replace b1 := Bool.eq_false_iff.2 b1
      exact AtV.fin Tryz.func28 tabOk ext28Ok mixed (p28_1 x0) ⟨trivial, b0, trivial, b1, trivial⟩
  · try simp only [if_neg b0] at h ⊢
    replace b0 := Bool.eq_false_iff.2 b0
    exact AtV.fin Tryz.func28 tabOk ext28Ok mixed (p28_2 x0) ⟨trivial, b0, rfl, trivial⟩

def S28 : Am.Spec := { sig := sig28, pre := fun ⟨x0, _⟩ => P28 x0, res := fun ⟨x0, _⟩ => [⟨Ty.bool, g28_0 x0⟩], kds := kds28 }
theorem con28 : Contract Tryz.prog 28 S28 := contract_of Tryz.func28 hb28 (Nat.le_of_ble_eq_true (by kernel_rfl)) (fun ⟨x0, _⟩ h _ K q => at28 x0 h K q)


end
end Go.Proofs.YthlhnglkechkaaaGreatDoor

/- Function 65 (impl.isOpsDay): its runs between cut points. Written by a program of this repo (gen). -/
set_option linter.unusedVariables false
set_option linter.unusedSimpArgs false
set_option maxRecDepth 100000
namespace Go.Proofs.YthlhnglkechkaaaGreatDoor
open Go Go.Am Go.Proofs
noncomputable section
def ext65 : Ext := [(59, S59)]
theorem call65_59 : Callable Tryz.prog 59 := ⟨Tryz.f59, Tryz.func59, by kernel_rfl, by kernel_rfl⟩
theorem ext65Ok : ExtOk Tryz.prog ext65 := ⟨⟨call65_59, con59⟩, trivial⟩

noncomputable def b65 : Code := bodyOf Tryz.f65
theorem hb65 : Tryz.f65.body = some b65 := by kernel_rfl
def sig65 : List AT := [AT.v (Ty.int .i64)]
def tys65 : List Ty := [Ty.bool]
def kds65 : List RK := []
def oks65 : List AT := owns sig65
def P65 (x0 : Int) : Prop := True
def g65_0 (x0 : Int) : Bool := g59_0 x0 0 100000
theorem p65_0 (x0 : Int) : runF tab ext65 false 5 [] 2000 [] oks65 kds65 tys65 Tryz.f65.results [] [.code b65] (entE 0 0 sig65 (x0, ())) (entL sig65 (x0, ())) = some ([Dyn.mk Ty.bool (g59_0 x0 0 100000)], [], [True]) := by kernel_rfl
theorem at65 (x0 : Int) (h : P65 x0) (K : Ctx) (q : Nat → Value) : AtV Tryz.prog 65 (PostR kds65 oks65 [⟨Ty.bool, g65_0 x0⟩] [] [] q K) 5 K q [] [.code b65] (entE 0 0 sig65 (x0, ())) (entL sig65 (x0, ())) := by
  unfold P65 at h
  unfold g65_0
  exact AtV.fin Tryz.func65 tabOk ext65Ok mixed (p65_0 x0) ⟨trivial, trivial⟩

def S65 : Am.Spec := { sig := sig65, pre := fun ⟨x0, _⟩ => P65 x0, res := fun ⟨x0, _⟩ => [⟨Ty.bool, g65_0 x0⟩], kds := kds65 }
theorem con65 : Contract Tryz.prog 65 S65 := contract_of Tryz.func65 hb65 (Nat.le_of_ble_eq_true (by kernel_rfl)) (fun ⟨x0, _⟩ h _ K q => at65 x0 h K q)


end
end Go.Proofs.YthlhnglkechkaaaGreatDoor

/- Function 64 (impl.isCount): its runs between cut points. Written by a program of this repo (gen). -/
set_option linter.unusedVariables false
set_option linter.unusedSimpArgs false
set_option maxRecDepth 100000
namespace Go.Proofs.YthlhnglkechkaaaGreatDoor
open Go Go.Am Go.Proofs
noncomputable section
def ext64 : Ext := [(59, S59)]
theorem call64_59 : Callable Tryz.prog 59 := ⟨Tryz.f59, Tryz.func59, by kernel_rfl, by kernel_rfl⟩
theorem ext64Ok : ExtOk Tryz.prog ext64 := ⟨⟨call64_59, con59⟩, trivial⟩

noncomputable def b64 : Code := bodyOf Tryz.f64
theorem hb64 : Tryz.f64.body = some b64 := by kernel_rfl
def sig64 : List AT := [AT.v (Ty.int .i64)]
def tys64 : List Ty := [Ty.bool]
def kds64 : List RK := []
def oks64 : List AT := owns sig64
def P64 (x0 : Int) : Prop := True
def g64_0 (x0 : Int) : Bool := g59_0 x0 0 1000000
theorem p64_0 (x0 : Int) : runF tab ext64 false 5 [] 2000 [] oks64 kds64 tys64 Tryz.f64.results [] [.code b64] (entE 0 0 sig64 (x0, ())) (entL sig64 (x0, ())) = some ([Dyn.mk Ty.bool (g59_0 x0 0 1000000)], [], [True]) := by kernel_rfl
theorem at64 (x0 : Int) (h : P64 x0) (K : Ctx) (q : Nat → Value) : AtV Tryz.prog 64 (PostR kds64 oks64 [⟨Ty.bool, g64_0 x0⟩] [] [] q K) 5 K q [] [.code b64] (entE 0 0 sig64 (x0, ())) (entL sig64 (x0, ())) := by
  unfold P64 at h
  unfold g64_0
  exact AtV.fin Tryz.func64 tabOk ext64Ok mixed (p64_0 x0) ⟨trivial, trivial⟩

def S64 : Am.Spec := { sig := sig64, pre := fun ⟨x0, _⟩ => P64 x0, res := fun ⟨x0, _⟩ => [⟨Ty.bool, g64_0 x0⟩], kds := kds64 }
theorem con64 : Contract Tryz.prog 64 S64 := contract_of Tryz.func64 hb64 (Nat.le_of_ble_eq_true (by kernel_rfl)) (fun ⟨x0, _⟩ h _ K q => at64 x0 h K q)


end
end Go.Proofs.YthlhnglkechkaaaGreatDoor

/- Function 89 (impl.validCheck): its runs between cut points. Written by a program of this repo (gen). -/
set_option linter.unusedVariables false
set_option linter.unusedSimpArgs false
set_option maxRecDepth 100000
namespace Go.Proofs.YthlhnglkechkaaaGreatDoor
open Go Go.Am Go.Proofs
noncomputable section
def ext89 : Ext := [(88, S88), (59, S59), (65, S65), (64, S64)]
theorem call89_88 : Callable Tryz.prog 88 := ⟨Tryz.f88, Tryz.func88, by kernel_rfl, by kernel_rfl⟩
theorem call89_59 : Callable Tryz.prog 59 := ⟨Tryz.f59, Tryz.func59, by kernel_rfl, by kernel_rfl⟩
theorem call89_65 : Callable Tryz.prog 65 := ⟨Tryz.f65, Tryz.func65, by kernel_rfl, by kernel_rfl⟩
theorem call89_64 : Callable Tryz.prog 64 := ⟨Tryz.f64, Tryz.func64, by kernel_rfl, by kernel_rfl⟩
theorem ext89Ok : ExtOk Tryz.prog ext89 := ⟨⟨call89_88, con88⟩, ⟨call89_59, con59⟩, ⟨call89_65, con65⟩, ⟨call89_64, con64⟩, trivial⟩

noncomputable def b89 : Code := bodyOf Tryz.f89
theorem hb89 : Tryz.f89.body = some b89 := by kernel_rfl
def sig89 : List AT := [AT.v (Ty.cons Ty.str (Ty.cons (Ty.int .i64) (Ty.cons (Ty.int .i64) (Ty.cons (Ty.int .i64) (Ty.cons (Ty.int .i64) Ty.unit)))))]
def tys89 : List Ty := [Ty.bool]
def kds89 : List RK := []
def oks89 : List AT := owns sig89
def P89 (x0 : ByteArray × Int × Int × Int × Int × Unit) : Prop := True
def g89_0 (x0 : ByteArray × Int × Int × Int × Int × Unit) : Bool := (if (g88_0 x0.1) = true then (if (g59_0 x0.2.1 1 100000) = true then (if (g59_0 x0.2.2.1 1 1000000) = true then (if (g65_0 x0.2.2.2.1) = true then g64_0 x0.2.2.2.2.1 else false) else false) else false) else false)
theorem p89_0 (x0 : ByteArray × Int × Int × Int × Int × Unit) : runF tab ext89 false 26 [] 2000 [] oks89 kds89 tys89 Tryz.f89.results [true, true, true, true] [.code b89] (entE 0 0 sig89 (x0, ())) (entL sig89 (x0, ())) = some ([Dyn.mk Ty.bool (g64_0 x0.2.2.2.2.1)], [], [True, g88_0 x0.1 = true, True, g59_0 x0.2.1 1 100000 = true, True, g59_0 x0.2.2.1 1 1000000 = true, True, g65_0 x0.2.2.2.1 = true, True]) := by kernel_rfl
theorem p89_1 (x0 : ByteArray × Int × Int × Int × Int × Unit) : runF tab ext89 false 26 [] 2000 [] oks89 kds89 tys89 Tryz.f89.results [true, true, true, false] [.code b89] (entE 0 0 sig89 (x0, ())) (entL sig89 (x0, ())) = some ([Dyn.mk Ty.bool false], [], [True, g88_0 x0.1 = true, True, g59_0 x0.2.1 1 100000 = true, True, g59_0 x0.2.2.1 1 1000000 = true, True, g65_0 x0.2.2.2.1 = false]) := by kernel_rfl
theorem p89_2 (x0 : ByteArray × Int × Int × Int × Int × Unit) : runF tab ext89 false 26 [] 2000 [] oks89 kds89 tys89 Tryz.f89.results [true, true, false, false] [.code b89] (entE 0 0 sig89 (x0, ())) (entL sig89 (x0, ())) = some ([Dyn.mk Ty.bool false], [], [True, g88_0 x0.1 = true, True, g59_0 x0.2.1 1 100000 = true, True, g59_0 x0.2.2.1 1 1000000 = false, false = false]) := by kernel_rfl
theorem p89_3 (x0 : ByteArray × Int × Int × Int × Int × Unit) : runF tab ext89 false 26 [] 2000 [] oks89 kds89 tys89 Tryz.f89.results [true, false, false, false] [.code b89] (entE 0 0 sig89 (x0, ())) (entL sig89 (x0, ())) = some ([Dyn.mk Ty.bool false], [], [True, g88_0 x0.1 = true, True, g59_0 x0.2.1 1 100000 = false, false = false, false = false]) := by kernel_rfl
theorem p89_4 (x0 : ByteArray × Int × Int × Int × Int × Unit) : runF tab ext89 false 26 [] 2000 [] oks89 kds89 tys89 Tryz.f89.results [false, false, false, false] [.code b89] (entE 0 0 sig89 (x0, ())) (entL sig89 (x0, ())) = some ([Dyn.mk Ty.bool false], [], [True, g88_0 x0.1 = false, false = false, false = false, false = false]) := by kernel_rfl
theorem at89 (x0 : ByteArray × Int × Int × Int × Int × Unit) (h : P89 x0) (K : Ctx) (q : Nat → Value) : AtV Tryz.prog 89 (PostR kds89 oks89 [⟨Ty.bool, g89_0 x0⟩] [] [] q K) 26 K q [] [.code b89] (entE 0 0 sig89 (x0, ())) (entL sig89 (x0, ())) := by
  unfold P89 at h
  unfold g89_0
  by_cases b0 : (g88_0 x0.1) = true
  · try simp only [if_pos b0] at h ⊢
    by_cases b1 : (g59_0 x0.2.1 1 100000) = true
    · try simp only [if_pos b1] at h ⊢
      by_cases b2 : (g59_0 x0.2.2.1 1 1000000) = true
      · try simp only [if_pos b2] at h ⊢
        by_cases b3 : (g65_0 x0.2.2.2.1) = true
        · try simp only [if_pos b3] at h ⊢
          exact AtV.fin Tryz.func89 tabOk ext89Ok mixed (p89_0 x0) ⟨trivial, b0, trivial, b1, trivial, b2, trivial, b3, trivial, trivial⟩
        · try simp only [if_neg b3] at h ⊢
          replace b3 := Bool.eq_false_iff.2 b3
          exact AtV.fin Tryz.func89 tabOk ext89Ok mixed (p89_1 x0) ⟨trivial, b0, trivial, b1, trivial, b2, trivial, b3, trivial⟩
      · try simp only [if_neg b2] at h ⊢
        replace b2 := Bool.eq_false_iff.2 b2
        exact AtV.fin Tryz.func89 tabOk ext89Ok mixed (p89_2 x0) ⟨trivial, b0, trivial, b1, trivial, b2, rfl, trivial⟩
    · try simp only [if_neg b1] at h ⊢
      replace b1 := Bool.eq_false_iff.2 b1
      exact AtV.fin Tryz.func89 tabOk ext89Ok mixed (p89_3 x0) ⟨trivial, b0, trivial, b1, rfl, rfl, trivial⟩
  · try simp only [if_neg b0] at h ⊢
    replace b0 := Bool.eq_false_iff.2 b0
    exact AtV.fin Tryz.func89 tabOk ext89Ok mixed (p89_4 x0) ⟨trivial, b0, rfl, rfl, rfl, trivial⟩

def S89 : Am.Spec := { sig := sig89, pre := fun ⟨x0, _⟩ => P89 x0, res := fun ⟨x0, _⟩ => [⟨Ty.bool, g89_0 x0⟩], kds := kds89 }
theorem con89 : Contract Tryz.prog 89 S89 := contract_of Tryz.func89 hb89 (Nat.le_of_ble_eq_true (by kernel_rfl)) (fun ⟨x0, _⟩ h _ K q => at89 x0 h K q)


end
end Go.Proofs.YthlhnglkechkaaaGreatDoor

/- Function 63 (impl.ValidChecks): its runs between cut points. Written by a program of this repo (gen). -/
set_option linter.unusedVariables false
set_option linter.unusedSimpArgs false
set_option maxRecDepth 100000
namespace Go.Proofs.YthlhnglkechkaaaGreatDoor
open Go Go.Am Go.Proofs
noncomputable section
def ext63 : Ext := [(89, S89)]
theorem call63_89 : Callable Tryz.prog 89 := ⟨Tryz.f89, Tryz.func89, by kernel_rfl, by kernel_rfl⟩
theorem ext63Ok : ExtOk Tryz.prog ext63 := ⟨⟨call63_89, con89⟩, trivial⟩

noncomputable def b63 : Code := bodyOf Tryz.f63
theorem hb63 : Tryz.f63.body = some b63 := by kernel_rfl
def sig63 : List AT := [AT.v (Ty.sl (Ty.cons Ty.str (Ty.cons (Ty.int .i64) (Ty.cons (Ty.int .i64) (Ty.cons (Ty.int .i64) (Ty.cons (Ty.int .i64) Ty.unit))))))]
def tys63 : List Ty := [Ty.bool]
def kds63 : List RK := []
def oks63 : List AT := owns sig63
def E63_2 (v7 : Int) (x0 : List TyB0) : Env := [(0, PV.a (Atom.sl (Ty.cons Ty.str (Ty.cons (Ty.int .i64) (Ty.cons (Ty.int .i64) (Ty.cons (Ty.int .i64) (Ty.cons (Ty.int .i64) Ty.unit))))) x0)), (5, PV.a (Atom.sl (Ty.cons Ty.str (Ty.cons (Ty.int .i64) (Ty.cons (Ty.int .i64) (Ty.cons (Ty.int .i64) (Ty.cons (Ty.int .i64) Ty.unit))))) x0)), (6, PV.a (Atom.val (Value.int .i64 (↑(List.length x0) : Int)))), (7, PV.a (Atom.val (Value.int .i64 v7)))]
def L63_2 (v7 : Int) (x0 : List TyB0) : Heap := []
mutual
def R63 : Nat → List TyB0 → List Dyn → Prop
  | 0, _, _ => False
  | n + 1, x0, ds => (R63_2 n (0) (x0) ds)
def R63_2 : Nat → Int → List TyB0 → List Dyn → Prop
  | 0, _, _, _ => False
  | n + 1, v7, x0, ds => (if (decide (v7 < (↑(List.length x0) : Int))) = true then ((0 ≤ v7) ∧ (v7 < (↑(List.length x0) : Int)) ∧ (if (!g89_0 (List.getD x0 (Int.toNat v7) (ByteArray.empty, 0, 0, 0, 0, ()))) = true then (ds = [Dyn.mk Ty.bool false]) else (if (decide (v7 > 0)) = true then ((InR .i64 (v7 - 1)) ∧ ((0 ≤ v7 - 1) ∧ (v7 - 1 < (↑(List.length x0) : Int)) ∧ (if (Op.bytesLess (ByteArray.toList (List.getD x0 (Int.toNat v7) (ByteArray.empty, 0, 0, 0, 0, ())).1) (ByteArray.toList (List.getD x0 (Int.toNat (v7 - 1)) (ByteArray.empty, 0, 0, 0, 0, ())).1) || ByteArray.toList (List.getD x0 (Int.toNat v7) (ByteArray.empty, 0, 0, 0, 0, ())).1 == ByteArray.toList (List.getD x0 (Int.toNat (v7 - 1)) (ByteArray.empty, 0, 0, 0, 0, ())).1) = true then (ds = [Dyn.mk Ty.bool false]) else ((InR .i64 (v7 + 1)) ∧ (R63_2 n (v7 + 1) (x0) ds))))) else ((InR .i64 (v7 + 1)) ∧ (R63_2 n (v7 + 1) (x0) ds))))) else (ds = [Dyn.mk Ty.bool (decide ((↑(List.length x0) : Int) ≤ 16))]))
end
theorem p63_0 (x0 : List TyB0) : Am.runN tab ext63 false 34 [] 2000 [] [] [0, 5, 6, 7] [] [] [.code b63] (entE 0 0 sig63 (x0, ())) (entL sig63 (x0, ())) = some (cutAt b63 2, E63_2 (0) (x0), L63_2 (0) (x0), []) := by kernel_rfl
theorem p63_1 (v7 : Int) (x0 : List TyB0) : runF tab ext63 false 34 [] 2000 [] oks63 kds63 tys63 Tryz.f63.results [true, true, true] (cutAt b63 2) (E63_2 v7 x0) (L63_2 v7 x0) = some ([Dyn.mk Ty.bool false], [], [decide (v7 < (↑(List.length x0) : Int)) = true, 0 ≤ v7, v7 < (↑(List.length x0) : Int), True, (!g89_0 (List.getD x0 (Int.toNat v7) (ByteArray.empty, 0, 0, 0, 0, ()))) = true, true = true]) := by kernel_rfl
theorem p63_2 (v7 : Int) (x0 : List TyB0) : runF tab ext63 false 34 [] 2000 [] oks63 kds63 tys63 Tryz.f63.results [true, false, true, true] (cutAt b63 2) (E63_2 v7 x0) (L63_2 v7 x0) = some ([Dyn.mk Ty.bool false], [], [decide (v7 < (↑(List.length x0) : Int)) = true, 0 ≤ v7, v7 < (↑(List.length x0) : Int), True, (!g89_0 (List.getD x0 (Int.toNat v7) (ByteArray.empty, 0, 0, 0, 0, ()))) = false, decide (v7 > 0) = true, InR .i64 (v7 - 1), 0 ≤ v7 - 1, v7 - 1 < (↑(List.length x0) : Int), (Op.bytesLess (ByteArray.toList (List.getD x0 (Int.toNat v7) (ByteArray.empty, 0, 0, 0, 0, ())).1) (ByteArray.toList (List.getD x0 (Int.toNat (v7 - 1)) (ByteArray.empty, 0, 0, 0, 0, ())).1) || ByteArray.toList (List.getD x0 (Int.toNat v7) (ByteArray.empty, 0, 0, 0, 0, ())).1 == ByteArray.toList (List.getD x0 (Int.toNat (v7 - 1)) (ByteArray.empty, 0, 0, 0, 0, ())).1) = true]) := by kernel_rfl
theorem p63_3 (v7 : Int) (x0 : List TyB0) : Am.runN tab ext63 false 34 [] 2000 [] [] [0, 5, 6, 7] [] [true, false, true, false] (cutAt b63 2) (E63_2 v7 x0) (L63_2 v7 x0) = some (cutAt b63 2, E63_2 (v7 + 1) (x0), L63_2 (v7 + 1) (x0), [decide (v7 < (↑(List.length x0) : Int)) = true, 0 ≤ v7, v7 < (↑(List.length x0) : Int), True, (!g89_0 (List.getD x0 (Int.toNat v7) (ByteArray.empty, 0, 0, 0, 0, ()))) = false, decide (v7 > 0) = true, InR .i64 (v7 - 1), 0 ≤ v7 - 1, v7 - 1 < (↑(List.length x0) : Int), (Op.bytesLess (ByteArray.toList (List.getD x0 (Int.toNat v7) (ByteArray.empty, 0, 0, 0, 0, ())).1) (ByteArray.toList (List.getD x0 (Int.toNat (v7 - 1)) (ByteArray.empty, 0, 0, 0, 0, ())).1) || ByteArray.toList (List.getD x0 (Int.toNat v7) (ByteArray.empty, 0, 0, 0, 0, ())).1 == ByteArray.toList (List.getD x0 (Int.toNat (v7 - 1)) (ByteArray.empty, 0, 0, 0, 0, ())).1) = false, InR .i64 (v7 + 1)]) := by kernel_rfl
theorem p63_4 (v7 : Int) (x0 : List TyB0) : Am.runN tab ext63 false 34 [] 2000 [] [] [0, 5, 6, 7] [] [true, false, false, false] (cutAt b63 2) (E63_2 v7 x0) (L63_2 v7 x0) = some (cutAt b63 2, E63_2 (v7 + 1) (x0), L63_2 (v7 + 1) (x0), [decide (v7 < (↑(List.length x0) : Int)) = true, 0 ≤ v7, v7 < (↑(List.length x0) : Int), True, (!g89_0 (List.getD x0 (Int.toNat v7) (ByteArray.empty, 0, 0, 0, 0, ()))) = false, decide (v7 > 0) = false, false = false, InR .i64 (v7 + 1)]) := by kernel_rfl
theorem p63_5 (v7 : Int) (x0 : List TyB0) : runF tab ext63 false 34 [] 2000 [] oks63 kds63 tys63 Tryz.f63.results [false] (cutAt b63 2) (E63_2 v7 x0) (L63_2 v7 x0) = some ([Dyn.mk Ty.bool (decide ((↑(List.length x0) : Int) ≤ 16))], [], [decide (v7 < (↑(List.length x0) : Int)) = false]) := by kernel_rfl
theorem snd63 : ∀ n, (∀ (x0 : List TyB0) ds, R63 n x0 ds → ∀ K q, AtV Tryz.prog 63 (PostR kds63 oks63 ds [] [] q K) 34 K q [] [.code b63] (entE 0 0 sig63 (x0, ())) (entL sig63 (x0, ()))) ∧ (∀ (v7 : Int) (x0 : List TyB0) ds, R63_2 n v7 x0 ds → ∀ K q, AtV Tryz.prog 63 (PostR kds63 oks63 ds [] [] q K) 34 K q [] (cutAt b63 2) (E63_2 v7 x0) (L63_2 v7 x0)) := by
  intro n
  induction n with
  | zero => exact ⟨fun _ _ h => by simp only [R63] at h, fun _ _ _ h => by simp only [R63_2] at h⟩
  | succ n ih =>
  obtain ⟨ih, ih2⟩ := ih
  refine ⟨?_, ?_⟩
  · intro x0 ds h K q
    rw [R63] at h
    exact AtV.runN tabOk ext63Ok mixed (p63_0 x0) trivial (ih2 _ _ _ h K q)

  · intro v7 x0 ds h K q
    rw [R63_2] at h
    by_cases b0 : (decide (v7 < (↑(List.length x0) : Int))) = true
    · rw [if_pos b0] at h
      obtain ⟨s0, s1, h⟩ := h
      by_cases b1 : (!g89_0 (List.getD x0 (Int.toNat v7) (ByteArray.empty, 0, 0, 0, 0, ()))) = true
      · rw [if_pos b1] at h
        subst h
        exact AtV.fin Tryz.func63 tabOk ext63Ok mixed (p63_1 v7 x0) ⟨b0, s0, s1, trivial, b1, rfl, trivial⟩
      · rw [if_neg b1] at h
        replace b1 := Bool.eq_false_iff.2 b1
        by_cases b2 : (decide (v7 > 0)) = true
        · rw [if_pos b2] at h
          obtain ⟨s2, h⟩ := h
          obtain ⟨s3, s4, h⟩ := h
          by_cases b3 : (Op.bytesLess (ByteArray.toList (List.getD x0 (Int.toNat v7) (ByteArray.empty, 0, 0, 0, 0, ())).1) (ByteArray.toList (List.getD x0 (Int.toNat (v7 - 1)) (ByteArray.empty, 0, 0, 0, 0, ())).1) || ByteArray.toList (List.getD x0 (Int.toNat v7) (ByteArray.empty, 0, 0, 0, 0, ())).1 == ByteArray.toList (List.getD x0 (Int.toNat (v7 - 1)) (ByteArray.empty, 0, 0, 0, 0, ())).1) = true
          · rw [if_pos b3] at h
            subst h
            exact AtV.fin Tryz.func63 tabOk ext63Ok mixed (p63_2 v7 x0) ⟨b0, s0, s1, trivial, b1, b2, s2, s3, s4, b3, trivial⟩
          · rw [if_neg b3] at h
            replace b3 := Bool.eq_false_iff.2 b3
            obtain ⟨s5, h⟩ := h
            exact AtV.runN tabOk ext63Ok mixed (p63_3 v7 x0) ⟨b0, s0, s1, trivial, b1, b2, s2, s3, s4, b3, s5, trivial⟩ (ih2 _ _ _ h K q)
        · rw [if_neg b2] at h
          replace b2 := Bool.eq_false_iff.2 b2
          obtain ⟨s2, h⟩ := h
          exact AtV.runN tabOk ext63Ok mixed (p63_4 v7 x0) ⟨b0, s0, s1, trivial, b1, b2, rfl, s2, trivial⟩ (ih2 _ _ _ h K q)
    · rw [if_neg b0] at h
      replace b0 := Bool.eq_false_iff.2 b0
      subst h
      exact AtV.fin Tryz.func63 tabOk ext63Ok mixed (p63_5 v7 x0) ⟨b0, trivial⟩



def ok63 (x0 : List TyB0) (i : Nat) (x : TyB0) : Bool :=
  g89_0 x && (i == 0 || !(Op.bytesLess (ByteArray.toList x.1) (ByteArray.toList (x0.getD (i - 1) (ByteArray.empty, (0 : Int), (0 : Int), (0 : Int), (0 : Int), ())).1) || ByteArray.toList x.1 == ByteArray.toList (x0.getD (i - 1) (ByteArray.empty, (0 : Int), (0 : Int), (0 : Int), (0 : Int), ())).1))
def g63_0 (x0 : List TyB0) : Bool := allI (ok63 x0) 0 x0 && decide (x0.length ≤ 16)
def P63 (x0 : List TyB0) : Prop := True

theorem step63 (n i : Nat) (x0 : List TyB0) (hm : x0.length ≤ maxLen) (hi : i < x0.length) (ds : List Dyn) :
    (if ok63 x0 i (x0.getD i (ByteArray.empty, (0 : Int), (0 : Int), (0 : Int), (0 : Int), ())) = true then R63_2 n ((i : Int) + 1) x0 ds else ds = [⟨.bool, false⟩]) → R63_2 (n + 1) (i : Int) x0 ds := by
  intro h
  have hu := inR_up hm hi
  rw [R63_2, if_pos (by simp; omega)]
  refine ⟨by omega, by omega, ?_⟩
  simp only [Int.toNat_natCast]
  unfold ok63 at h
  by_cases h1 : g89_0 (x0.getD i (ByteArray.empty, (0 : Int), (0 : Int), (0 : Int), (0 : Int), ())) = true
  case neg =>
    have h1 := Bool.eq_false_iff.2 h1
    rw [h1] at h
    rw [if_pos (by rw [h1]; rfl)]
    simpa using h
  case pos =>
    rw [h1] at h
    rw [if_neg (by rw [h1]; simp)]
    by_cases h0 : (i : Int) > 0
    · rw [if_pos (by simpa using h0)]
      have hi0 : (i == 0) = false := by simp; omega
      have e : ((i : Int) - 1).toNat = i - 1 := by omega
      refine ⟨by rw [i64_iff]; have : maxLen ≤ 9223372036854775807 := by decide
                 omega, by omega, by omega, ?_⟩
      rw [e]
      by_cases h2 : (Op.bytesLess (ByteArray.toList (x0.getD i (ByteArray.empty, (0 : Int), (0 : Int), (0 : Int), (0 : Int), ())).1) (ByteArray.toList (x0.getD (i - 1) (ByteArray.empty, (0 : Int), (0 : Int), (0 : Int), (0 : Int), ())).1) || ByteArray.toList (x0.getD i (ByteArray.empty, (0 : Int), (0 : Int), (0 : Int), (0 : Int), ())).1 == ByteArray.toList (x0.getD (i - 1) (ByteArray.empty, (0 : Int), (0 : Int), (0 : Int), (0 : Int), ())).1) = true
      · rw [if_pos h2]
        rw [hi0, h2] at h
        simpa using h
      · rw [if_neg h2]
        rw [hi0, Bool.eq_false_iff.2 h2] at h
        exact ⟨hu, by simpa using h⟩
    · rw [if_neg (by simpa using h0)]
      have hi0 : (i == 0) = true := by simp; omega
      rw [hi0] at h
      exact ⟨hu, by simpa using h⟩

theorem top63 (x0 : List TyB0) (hw : x0.length ≤ maxLen) : R63 (x0.length + 1 + 1) x0 [⟨.bool, g63_0 x0⟩] := by
  rw [R63]
  have key := loop_testI x0 (ByteArray.empty, (0 : Int), (0 : Int), (0 : Int), (0 : Int), ()) (ok63 x0) [(⟨.bool, false⟩ : Dyn)] [⟨.bool, decide (x0.length ≤ 16)⟩] (fun n i ds => R63_2 n i x0 ds) (fun n => ?_) (fun n i hi hok ds hr => ?_) (fun n i hi hok => ?_)
  · unfold g63_0
    cases h : allI (ok63 x0) 0 x0 with
    | true => rw [if_pos h] at key; simpa using key
    | false => rw [if_neg (by rw [h]; simp)] at key; simpa using key
  · rw [R63_2, if_neg (by simp)]
    have hc : decide ((x0.length : Int) ≤ 16) = decide (x0.length ≤ 16) := by
      congr 1; exact propext ⟨fun h => by omega, fun h => by omega⟩
    rw [hc]
  · exact step63 n i x0 hw hi ds (by rw [if_pos hok]; exact hr)
  · exact step63 n i x0 hw hi _ (by rw [if_neg (by rw [hok]; simp)])

def S63 : Am.Spec := { sig := sig63, pre := fun ⟨x0, _⟩ => P63 x0, res := fun ⟨x0, _⟩ => [⟨Ty.bool, g63_0 x0⟩] }
theorem con63 : Contract Tryz.prog 63 S63 := contract_of Tryz.func63 hb63 (Nat.le_of_ble_eq_true (by kernel_rfl)) (fun ⟨x0, _⟩ h hwf K q =>
  (snd63 _).1 x0 _ (top63 x0 hwf.1.1) K q)

end
end Go.Proofs.YthlhnglkechkaaaGreatDoor

/- Function 67 (impl.inspected$1): its runs between cut points. Written by a program of this repo (gen). -/
set_option linter.unusedVariables false
set_option linter.unusedSimpArgs false
set_option maxRecDepth 100000
namespace Go.Proofs.YthlhnglkechkaaaGreatDoor
open Go Go.Am Go.Proofs
noncomputable section
def ext67 : Ext := []
theorem ext67Ok : ExtOk Tryz.prog ext67 := trivial

noncomputable def b67 : Code := bodyOf Tryz.f67
theorem hb67 : Tryz.f67.body = some b67 := by kernel_rfl
def sig67 : List AT := [AT.v (Ty.cons Ty.str (Ty.cons (Ty.int .i64) (Ty.cons (Ty.int .i64) (Ty.cons (Ty.int .i64) (Ty.cons (Ty.int .i64) Ty.unit))))), AT.p (.int .i64), AT.p (.int .i64)]
def tys67 : List Ty := [Ty.bool]
def kds67 : List RK := []
def oks67 : List AT := owns sig67
def P67 (x0 : ByteArray × Int × Int × Int × Int × Unit) (x1 : Int) (x2 : Int) : Prop := True
def g67_0 (x0 : ByteArray × Int × Int × Int × Int × Unit) (x1 : Int) (x2 : Int) : Bool := (if (decide (x0.2.2.2.1 > x1)) = true then true else decide (x0.2.2.2.2.1 > x2))
theorem p67_0 (x0 : ByteArray × Int × Int × Int × Int × Unit) (x1 : Int) (x2 : Int) : runF tab ext67 false 15 [] 2000 [] oks67 kds67 tys67 Tryz.f67.results [true] [.code b67] (entE 0 0 sig67 (x0, x1, x2, ())) (entL sig67 (x0, x1, x2, ())) = some ([Dyn.mk Ty.bool true], [], [decide (x0.2.2.2.1 > x1) = true]) := by kernel_rfl
theorem p67_1 (x0 : ByteArray × Int × Int × Int × Int × Unit) (x1 : Int) (x2 : Int) : runF tab ext67 false 15 [] 2000 [] oks67 kds67 tys67 Tryz.f67.results [false] [.code b67] (entE 0 0 sig67 (x0, x1, x2, ())) (entL sig67 (x0, x1, x2, ())) = some ([Dyn.mk Ty.bool (decide (x0.2.2.2.2.1 > x2))], [], [decide (x0.2.2.2.1 > x1) = false]) := by kernel_rfl
theorem at67 (x0 : ByteArray × Int × Int × Int × Int × Unit) (x1 : Int) (x2 : Int) (h : P67 x0 x1 x2) (K : Ctx) (q : Nat → Value) : AtV Tryz.prog 67 (PostR kds67 oks67 [⟨Ty.bool, g67_0 x0 x1 x2⟩] [] [] q K) 15 K q [] [.code b67] (entE 0 0 sig67 (x0, x1, x2, ())) (entL sig67 (x0, x1, x2, ())) := by
  unfold P67 at h
  unfold g67_0
  by_cases b0 : (decide (x0.2.2.2.1 > x1)) = true
  · try simp only [if_pos b0] at h ⊢
    exact AtV.fin Tryz.func67 tabOk ext67Ok mixed (p67_0 x0 x1 x2) ⟨b0, trivial⟩
  · try simp only [if_neg b0] at h ⊢
    replace b0 := Bool.eq_false_iff.2 b0
    exact AtV.fin Tryz.func67 tabOk ext67Ok mixed (p67_1 x0 x1 x2) ⟨b0, trivial⟩

def S67 : Am.Spec := { sig := sig67, pre := fun ⟨x0, x1, x2, _⟩ => P67 x0 x1 x2, res := fun ⟨x0, x1, x2, _⟩ => [⟨Ty.bool, g67_0 x0 x1 x2⟩], kds := kds67 }
theorem con67 : Contract Tryz.prog 67 S67 := contract_of Tryz.func67 hb67 (Nat.le_of_ble_eq_true (by kernel_rfl)) (fun ⟨x0, x1, x2, _⟩ h _ K q => at67 x0 x1 x2 h K q)


end
end Go.Proofs.YthlhnglkechkaaaGreatDoor

/- Function 90 (slices.IndexFunc[[]impl.Check,impl.Check]): its runs between cut points. Written by a program of this repo (gen). -/
set_option linter.unusedVariables false
set_option linter.unusedSimpArgs false
set_option maxRecDepth 100000
namespace Go.Proofs.YthlhnglkechkaaaGreatDoor
open Go Go.Am Go.Proofs
noncomputable section
def ext90c67 : Ext := [(67, S67)]
theorem call90c67_67 : Callable Tryz.prog 67 := ⟨Tryz.f67, Tryz.func67, by kernel_rfl, by kernel_rfl⟩
theorem ext90c67Ok : ExtOk Tryz.prog ext90c67 := ⟨⟨call90c67_67, con67⟩, trivial⟩

noncomputable def b90c67 : Code := bodyOf Tryz.f90
theorem hb90c67 : Tryz.f90.body = some b90c67 := by kernel_rfl
def sig90c67 : List AT := [AT.v (Ty.sl (Ty.cons Ty.str (Ty.cons (Ty.int .i64) (Ty.cons (Ty.int .i64) (Ty.cons (Ty.int .i64) (Ty.cons (Ty.int .i64) Ty.unit)))))), AT.fn 67 [(true, (.int .i64)), (true, (.int .i64))]]
def tys90c67 : List Ty := [Ty.int .i64]
def kds90c67 : List RK := []
def oks90c67 : List AT := owns sig90c67
def E90c67_2 (v8 : Int) (x0 : List TyB0) (x1 : Int) (x1c : Int) : Env := [(0, PV.a (Atom.sl (Ty.cons Ty.str (Ty.cons (Ty.int .i64) (Ty.cons (Ty.int .i64) (Ty.cons (Ty.int .i64) (Ty.cons (Ty.int .i64) Ty.unit))))) x0)), (1, PV.fn 67 [Atom.ptr (Ty.int .i64) x1, Atom.ptr (Ty.int .i64) x1c]), (7, PV.a (Atom.val (Value.int .i64 (↑(List.length x0) : Int)))), (8, PV.a (Atom.val (Value.int .i64 v8)))]
def L90c67_2 (v8 : Int) (x0 : List TyB0) (x1 : Int) (x1c : Int) : Heap := []
mutual
def R90c67 : Nat → List TyB0 → Int → Int → List Dyn → Prop
  | 0, _, _, _, _ => False
  | n + 1, x0, x1, x1c, ds => (R90c67_2 n (0) (x0) (x1) (x1c) ds)
def R90c67_2 : Nat → Int → List TyB0 → Int → Int → List Dyn → Prop
  | 0, _, _, _, _, _ => False
  | n + 1, v8, x0, x1, x1c, ds => (if (decide (v8 < (↑(List.length x0) : Int))) = true then ((0 ≤ v8) ∧ (v8 < (↑(List.length x0) : Int)) ∧ (if (g67_0 (List.getD x0 (Int.toNat v8) (ByteArray.empty, 0, 0, 0, 0, ())) x1 x1c) = true then (ds = [Dyn.mk (Ty.int .i64) v8]) else ((InR .i64 (v8 + 1)) ∧ (R90c67_2 n (v8 + 1) (x0) (x1) (x1c) ds)))) else (ds = [Dyn.mk (Ty.int .i64) (-1)]))
end
theorem p90c67_0 (x0 : List TyB0) (x1 : Int) (x1c : Int) : Am.runN tab ext90c67 false 19 [] 2000 [] [] [0, 1, 7, 8] [] [] [.code b90c67] (entE 0 0 sig90c67 (x0, (x1, x1c, ()), ())) (entL sig90c67 (x0, (x1, x1c, ()), ())) = some (cutAt b90c67 2, E90c67_2 (0) (x0) (x1) (x1c), L90c67_2 (0) (x0) (x1) (x1c), []) := by kernel_rfl
theorem p90c67_1 (v8 : Int) (x0 : List TyB0) (x1 : Int) (x1c : Int) : runF tab ext90c67 false 19 [] 2000 [] oks90c67 kds90c67 tys90c67 Tryz.f90.results [true, true] (cutAt b90c67 2) (E90c67_2 v8 x0 x1 x1c) (L90c67_2 v8 x0 x1 x1c) = some ([Dyn.mk (Ty.int .i64) v8], [], [decide (v8 < (↑(List.length x0) : Int)) = true, 0 ≤ v8, v8 < (↑(List.length x0) : Int), True, g67_0 (List.getD x0 (Int.toNat v8) (ByteArray.empty, 0, 0, 0, 0, ())) x1 x1c = true]) := by kernel_rfl
theorem p90c67_2 (v8 : Int) (x0 : List TyB0) (x1 : Int) (x1c : Int) : Am.runN tab ext90c67 false 19 [] 2000 [] [] [0, 1, 7, 8] [] [true, false] (cutAt b90c67 2) (E90c67_2 v8 x0 x1 x1c) (L90c67_2 v8 x0 x1 x1c) = some (cutAt b90c67 2, E90c67_2 (v8 + 1) (x0) (x1) (x1c), L90c67_2 (v8 + 1) (x0) (x1) (x1c), [decide (v8 < (↑(List.length x0) : Int)) = true, 0 ≤ v8, v8 < (↑(List.length x0) : Int), True, g67_0 (List.getD x0 (Int.toNat v8) (ByteArray.empty, 0, 0, 0, 0, ())) x1 x1c = false, InR .i64 (v8 + 1)]) := by kernel_rfl
theorem p90c67_3 (v8 : Int) (x0 : List TyB0) (x1 : Int) (x1c : Int) : runF tab ext90c67 false 19 [] 2000 [] oks90c67 kds90c67 tys90c67 Tryz.f90.results [false] (cutAt b90c67 2) (E90c67_2 v8 x0 x1 x1c) (L90c67_2 v8 x0 x1 x1c) = some ([Dyn.mk (Ty.int .i64) (-1)], [], [decide (v8 < (↑(List.length x0) : Int)) = false]) := by kernel_rfl
theorem snd90c67 : ∀ n, (∀ (x0 : List TyB0) (x1 : Int) (x1c : Int) ds, R90c67 n x0 x1 x1c ds → ∀ K q, AtV Tryz.prog 90 (PostR kds90c67 oks90c67 ds [] [] q K) 19 K q [] [.code b90c67] (entE 0 0 sig90c67 (x0, (x1, x1c, ()), ())) (entL sig90c67 (x0, (x1, x1c, ()), ()))) ∧ (∀ (v8 : Int) (x0 : List TyB0) (x1 : Int) (x1c : Int) ds, R90c67_2 n v8 x0 x1 x1c ds → ∀ K q, AtV Tryz.prog 90 (PostR kds90c67 oks90c67 ds [] [] q K) 19 K q [] (cutAt b90c67 2) (E90c67_2 v8 x0 x1 x1c) (L90c67_2 v8 x0 x1 x1c)) := by
  intro n
  induction n with
  | zero => exact ⟨fun _ _ _ _ h => by simp only [R90c67] at h, fun _ _ _ _ _ h => by simp only [R90c67_2] at h⟩
  | succ n ih =>
  obtain ⟨ih, ih2⟩ := ih
  refine ⟨?_, ?_⟩
  · intro x0 x1 x1c ds h K q
    rw [R90c67] at h
    exact AtV.runN tabOk ext90c67Ok mixed (p90c67_0 x0 x1 x1c) trivial (ih2 _ _ _ _ _ h K q)

  · intro v8 x0 x1 x1c ds h K q
    rw [R90c67_2] at h
    by_cases b0 : (decide (v8 < (↑(List.length x0) : Int))) = true
    · rw [if_pos b0] at h
      obtain ⟨s0, s1, h⟩ := h
      by_cases b1 : (g67_0 (List.getD x0 (Int.toNat v8) (ByteArray.empty, 0, 0, 0, 0, ())) x1 x1c) = true
      · rw [if_pos b1] at h
        subst h
        exact AtV.fin Tryz.func90 tabOk ext90c67Ok mixed (p90c67_1 v8 x0 x1 x1c) ⟨b0, s0, s1, trivial, b1, trivial⟩
      · rw [if_neg b1] at h
        replace b1 := Bool.eq_false_iff.2 b1
        obtain ⟨s2, h⟩ := h
        exact AtV.runN tabOk ext90c67Ok mixed (p90c67_2 v8 x0 x1 x1c) ⟨b0, s0, s1, trivial, b1, s2, trivial⟩ (ih2 _ _ _ _ _ h K q)
    · rw [if_neg b0] at h
      replace b0 := Bool.eq_false_iff.2 b0
      subst h
      exact AtV.fin Tryz.func90 tabOk ext90c67Ok mixed (p90c67_3 v8 x0 x1 x1c) ⟨b0, trivial⟩



def g90c67_0 (x0 : List TyB0) (y0 : Int) (y1 : Int) : Int := idx (x0.findIdx? (fun x => g67_0 x y0 y1))
def P90c67 (x0 : List TyB0) (y0 : Int) (y1 : Int) : Prop := True

theorem top90c67 (x0 : List TyB0) (y0 : Int) (y1 : Int) (hm : x0.length ≤ maxLen) : R90c67 (x0.length + 1 + 1) x0 y0 y1 [⟨.int .i64, g90c67_0 x0 y0 y1⟩] := by
  rw [R90c67]
  have key := loop_find x0 (ByteArray.empty, (0 : Int), (0 : Int), (0 : Int), (0 : Int), ()) (fun x => g67_0 x y0 y1) [(⟨.int .i64, -1⟩ : Dyn)] (fun k => [⟨.int .i64, k⟩]) (fun n i ds => R90c67_2 n i x0 y0 y1 ds) (fun n => ?_) (fun n i hi hok ds hr => ?_) (fun n i hi hok => ?_)
  · unfold g90c67_0
    cases h : x0.findIdx? (fun x => g67_0 x y0 y1) <;> rw [h] at key <;> exact key
  · rw [R90c67_2, if_neg (by simp)]
  · rw [R90c67_2, if_pos (by simp; omega)]
    simp only [Int.toNat_natCast]
    refine ⟨by omega, by omega, ?_⟩
    rw [if_neg (by rw [hok]; simp)]
    exact ⟨inR_up hm hi, hr⟩
  · rw [R90c67_2, if_pos (by simp; omega)]
    simp only [Int.toNat_natCast]
    refine ⟨by omega, by omega, ?_⟩
    rw [if_pos hok] <;> trivial

def S90c67 : Am.Spec := { sig := sig90c67, pre := fun ⟨x0, ⟨y0, y1, _⟩, _⟩ => P90c67 x0 y0 y1, res := fun ⟨x0, ⟨y0, y1, _⟩, _⟩ => [⟨Ty.int .i64, g90c67_0 x0 y0 y1⟩] }
theorem con90c67 : Contract Tryz.prog 90 S90c67 := contract_of Tryz.func90 hb90c67 (Nat.le_of_ble_eq_true (by kernel_rfl)) (fun ⟨x0, ⟨y0, y1, _⟩, _⟩ h hwf K q =>
  (snd90c67 _).1 x0 y0 y1 _ (top90c67 x0 y0 y1 hwf.1.1) K q)

theorem any90c67 (x0 : List TyB0) (y0 : Int) (y1 : Int) : decide (g90c67_0 x0 y0 y1 ≥ 0) = x0.any (fun x => g67_0 x y0 y1) := by
  have := findIdx_any (fun x => g67_0 x y0 y1) x0
  unfold g90c67_0
  cases h : x0.any (fun x => g67_0 x y0 y1) with
  | true => rw [h] at this; simpa using this
  | false => rw [h] at this; simpa using this

end
end Go.Proofs.YthlhnglkechkaaaGreatDoor

/- Function 66 (slices.ContainsFunc[[]impl.Check,impl.Check]): its runs between cut points. Written by a program of this repo (gen). -/
set_option linter.unusedVariables false
set_option linter.unusedSimpArgs false
set_option maxRecDepth 100000
namespace Go.Proofs.YthlhnglkechkaaaGreatDoor
open Go Go.Am Go.Proofs
noncomputable section
def ext66c67 : Ext := [(90, S90c67), (67, S67)]
theorem call66c67_90 : Callable Tryz.prog 90 := ⟨Tryz.f90, Tryz.func90, by kernel_rfl, by kernel_rfl⟩
theorem call66c67_67 : Callable Tryz.prog 67 := ⟨Tryz.f67, Tryz.func67, by kernel_rfl, by kernel_rfl⟩
theorem ext66c67Ok : ExtOk Tryz.prog ext66c67 := ⟨⟨call66c67_90, con90c67⟩, ⟨call66c67_67, con67⟩, trivial⟩

noncomputable def b66c67 : Code := bodyOf Tryz.f66
theorem hb66c67 : Tryz.f66.body = some b66c67 := by kernel_rfl
def sig66c67 : List AT := [AT.v (Ty.sl (Ty.cons Ty.str (Ty.cons (Ty.int .i64) (Ty.cons (Ty.int .i64) (Ty.cons (Ty.int .i64) (Ty.cons (Ty.int .i64) Ty.unit)))))), AT.fn 67 [(true, (.int .i64)), (true, (.int .i64))]]
def tys66c67 : List Ty := [Ty.bool]
def kds66c67 : List RK := []
def oks66c67 : List AT := owns sig66c67
def P66c67 (x0 : List TyB0) (x1 : Int) (x1c : Int) : Prop := True
def g66c67_0 (x0 : List TyB0) (x1 : Int) (x1c : Int) : Bool := decide (g90c67_0 x0 x1 x1c ≥ 0)
theorem p66c67_0 (x0 : List TyB0) (x1 : Int) (x1c : Int) : runF tab ext66c67 false 9 [] 2000 [] oks66c67 kds66c67 tys66c67 Tryz.f66.results [] [.code b66c67] (entE 0 0 sig66c67 (x0, (x1, x1c, ()), ())) (entL sig66c67 (x0, (x1, x1c, ()), ())) = some ([Dyn.mk Ty.bool (decide (g90c67_0 x0 x1 x1c ≥ 0))], [], [True]) := by kernel_rfl
theorem at66c67 (x0 : List TyB0) (x1 : Int) (x1c : Int) (h : P66c67 x0 x1 x1c) (K : Ctx) (q : Nat → Value) : AtV Tryz.prog 66 (PostR kds66c67 oks66c67 [⟨Ty.bool, g66c67_0 x0 x1 x1c⟩] [] [] q K) 9 K q [] [.code b66c67] (entE 0 0 sig66c67 (x0, (x1, x1c, ()), ())) (entL sig66c67 (x0, (x1, x1c, ()), ())) := by
  unfold P66c67 at h
  unfold g66c67_0
  exact AtV.fin Tryz.func66 tabOk ext66c67Ok mixed (p66c67_0 x0 x1 x1c) ⟨trivial, trivial⟩

def S66c67 : Am.Spec := { sig := sig66c67, pre := fun ⟨x0, ⟨x1, x1c, _⟩, _⟩ => P66c67 x0 x1 x1c, res := fun ⟨x0, ⟨x1, x1c, _⟩, _⟩ => [⟨Ty.bool, g66c67_0 x0 x1 x1c⟩], kds := kds66c67 }
theorem con66c67 : Contract Tryz.prog 66 S66c67 := contract_of Tryz.func66 hb66c67 (Nat.le_of_ble_eq_true (by kernel_rfl)) (fun ⟨x0, ⟨x1, x1c, _⟩, _⟩ h _ K q => at66c67 x0 x1 x1c h K q)


end
end Go.Proofs.YthlhnglkechkaaaGreatDoor

/- Function 29 (impl.inspected): its runs between cut points. Written by a program of this repo (gen). -/
set_option linter.unusedVariables false
set_option linter.unusedSimpArgs false
set_option maxRecDepth 100000
namespace Go.Proofs.YthlhnglkechkaaaGreatDoor
open Go Go.Am Go.Proofs
noncomputable section
def ext29 : Ext := [(63, S63), (64, S64), (65, S65), (66, S66c67)]
theorem call29_63 : Callable Tryz.prog 63 := ⟨Tryz.f63, Tryz.func63, by kernel_rfl, by kernel_rfl⟩
theorem call29_64 : Callable Tryz.prog 64 := ⟨Tryz.f64, Tryz.func64, by kernel_rfl, by kernel_rfl⟩
theorem call29_65 : Callable Tryz.prog 65 := ⟨Tryz.f65, Tryz.func65, by kernel_rfl, by kernel_rfl⟩
theorem call29_66 : Callable Tryz.prog 66 := ⟨Tryz.f66, Tryz.func66, by kernel_rfl, by kernel_rfl⟩
theorem ext29Ok : ExtOk Tryz.prog ext29 := ⟨⟨call29_63, con63⟩, ⟨call29_64, con64⟩, ⟨call29_65, con65⟩, ⟨call29_66, con66c67⟩, trivial⟩

noncomputable def b29 : Code := bodyOf Tryz.f29
theorem hb29 : Tryz.f29.body = some b29 := by kernel_rfl
def sig29 : List AT := [AT.v (Ty.sl (Ty.cons Ty.str (Ty.cons (Ty.int .i64) (Ty.cons (Ty.int .i64) (Ty.cons (Ty.int .i64) (Ty.cons (Ty.int .i64) Ty.unit)))))), AT.v (Ty.int .i64), AT.v (Ty.int .i64), AT.v (Ty.int .i64)]
def tys29 : List Ty := [Ty.int .i64]
def kds29 : List RK := []
def oks29 : List AT := owns sig29
def P29 (x0 : List TyB0) (x1 : Int) (x2 : Int) (x3 : Int) : Prop := True
def g29_0 (x0 : List TyB0) (x1 : Int) (x2 : Int) (x3 : Int) : Int := (if (!g63_0 x0) = true then 1 else (if (!g64_0 x3) = true then 2 else (if (!g65_0 x1) = true then 2 else (if (!g64_0 x2) = true then 2 else (if (g66c67_0 x0 x1 x2) = true then 6 else 0)))))
theorem p29_0 (x0 : List TyB0) (x1 : Int) (x2 : Int) (x3 : Int) : runF tab ext29 false 31 [] 2000 [] oks29 kds29 tys29 Tryz.f29.results [true] [.code b29] (entE 0 0 sig29 (x0, x1, x2, x3, ())) (entL sig29 (x0, x1, x2, x3, ())) = some ([Dyn.mk (Ty.int .i64) 1], [], [True, (!g63_0 x0) = true]) := by kernel_rfl
theorem p29_1 (x0 : List TyB0) (x1 : Int) (x2 : Int) (x3 : Int) : runF tab ext29 false 31 [] 2000 [] oks29 kds29 tys29 Tryz.f29.results [false, true, true, true] [.code b29] (entE 0 0 sig29 (x0, x1, x2, x3, ())) (entL sig29 (x0, x1, x2, x3, ())) = some ([Dyn.mk (Ty.int .i64) 2], [], [True, (!g63_0 x0) = false, True, (!g64_0 x3) = true, true = true, true = true]) := by kernel_rfl
theorem p29_2 (x0 : List TyB0) (x1 : Int) (x2 : Int) (x3 : Int) : runF tab ext29 false 31 [] 2000 [] oks29 kds29 tys29 Tryz.f29.results [false, false, true, true] [.code b29] (entE 0 0 sig29 (x0, x1, x2, x3, ())) (entL sig29 (x0, x1, x2, x3, ())) = some ([Dyn.mk (Ty.int .i64) 2], [], [True, (!g63_0 x0) = false, True, (!g64_0 x3) = false, True, (!g65_0 x1) = true, true = true]) := by kernel_rfl
theorem p29_3 (x0 : List TyB0) (x1 : Int) (x2 : Int) (x3 : Int) : runF tab ext29 false 31 [] 2000 [] oks29 kds29 tys29 Tryz.f29.results [false, false, false, true] [.code b29] (entE 0 0 sig29 (x0, x1, x2, x3, ())) (entL sig29 (x0, x1, x2, x3, ())) = some ([Dyn.mk (Ty.int .i64) 2], [], [True, (!g63_0 x0) = false, True, (!g64_0 x3) = false, True, (!g65_0 x1) = false, True, (!g64_0 x2) = true]) := by kernel_rfl
theorem p29_4 (x0 : List TyB0) (x1 : Int) (x2 : Int) (x3 : Int) : runF tab ext29 false 31 [] 2000 [] oks29 kds29 tys29 Tryz.f29.results [false, false, false, false, true] [.code b29] (entE 0 0 sig29 (x0, x1, x2, x3, ())) (entL sig29 (x0, x1, x2, x3, ())) = some ([Dyn.mk (Ty.int .i64) 6], [], [True, (!g63_0 x0) = false, True, (!g64_0 x3) = false, True, (!g65_0 x1) = false, True, (!g64_0 x2) = false, True, g66c67_0 x0 x1 x2 = true]) := by kernel_rfl
theorem p29_5 (x0 : List TyB0) (x1 : Int) (x2 : Int) (x3 : Int) : runF tab ext29 false 31 [] 2000 [] oks29 kds29 tys29 Tryz.f29.results [false, false, false, false, false] [.code b29] (entE 0 0 sig29 (x0, x1, x2, x3, ())) (entL sig29 (x0, x1, x2, x3, ())) = some ([Dyn.mk (Ty.int .i64) 0], [], [True, (!g63_0 x0) = false, True, (!g64_0 x3) = false, True, (!g65_0 x1) = false, True, (!g64_0 x2) = false, True, g66c67_0 x0 x1 x2 = false]) := by kernel_rfl
theorem at29 (x0 : List TyB0) (x1 : Int) (x2 : Int) (x3 : Int) (h : P29 x0 x1 x2 x3) (K : Ctx) (q : Nat → Value) : AtV Tryz.prog 29 (PostR kds29 oks29 [⟨Ty.int .i64, g29_0 x0 x1 x2 x3⟩] [] [] q K) 31 K q [] [.code b29] (entE 0 0 sig29 (x0, x1, x2, x3, ())) (entL sig29 (x0, x1, x2, x3, ())) := by
  unfold P29 at h
  unfold g29_0
  by_cases b0 : (!g63_0 x0) = true
  · try simp only [if_pos b0] at h ⊢
    exact AtV.fin Tryz.func29 tabOk ext29Ok mixed (p29_0 x0 x1 x2 x3) ⟨trivial, b0, trivial⟩
  · try simp only [if_neg b0] at h ⊢
    replace b0 := Bool.eq_false_iff.2 b0
    by_cases b1 : (!g64_0 x3) = true
    · try simp only [if_pos b1] at h ⊢
      exact AtV.fin Tryz.func29 tabOk ext29Ok mixed (p29_1 x0 x1 x2 x3) ⟨trivial, b0, trivial, b1, rfl, rfl, trivial⟩
    · try simp only [if_neg b1] at h ⊢
      replace b1 := Bool.eq_false_iff.2 b1
      by_cases b2 : (!g65_0 x1) = true
      · try simp only [if_pos b2] at h ⊢
        exact AtV.fin Tryz.func29 tabOk ext29Ok mixed (p29_2 x0 x1 x2 x3) ⟨trivial, b0, trivial, b1, trivial, b2, rfl, trivial⟩
      · try simp only [if_neg b2] at h ⊢
        replace b2 := Bool.eq_false_iff.2 b2
        by_cases b3 : (!g64_0 x2) = true
        · try simp only [if_pos b3] at h ⊢
          exact AtV.fin Tryz.func29 tabOk ext29Ok mixed (p29_3 x0 x1 x2 x3) ⟨trivial, b0, trivial, b1, trivial, b2, trivial, b3, trivial⟩
        · try simp only [if_neg b3] at h ⊢
          replace b3 := Bool.eq_false_iff.2 b3
          by_cases b4 : (g66c67_0 x0 x1 x2) = true
          · try simp only [if_pos b4] at h ⊢
            exact AtV.fin Tryz.func29 tabOk ext29Ok mixed (p29_4 x0 x1 x2 x3) ⟨trivial, b0, trivial, b1, trivial, b2, trivial, b3, trivial, b4, trivial⟩
          · try simp only [if_neg b4] at h ⊢
            replace b4 := Bool.eq_false_iff.2 b4
            exact AtV.fin Tryz.func29 tabOk ext29Ok mixed (p29_5 x0 x1 x2 x3) ⟨trivial, b0, trivial, b1, trivial, b2, trivial, b3, trivial, b4, trivial⟩

def S29 : Am.Spec := { sig := sig29, pre := fun ⟨x0, x1, x2, x3, _⟩ => P29 x0 x1 x2 x3, res := fun ⟨x0, x1, x2, x3, _⟩ => [⟨Ty.int .i64, g29_0 x0 x1 x2 x3⟩], kds := kds29 }
theorem con29 : Contract Tryz.prog 29 S29 := contract_of Tryz.func29 hb29 (Nat.le_of_ble_eq_true (by kernel_rfl)) (fun ⟨x0, x1, x2, x3, _⟩ h _ K q => at29 x0 x1 x2 x3 h K q)


end
end Go.Proofs.YthlhnglkechkaaaGreatDoor

/- Function 31 (impl.isDayMinute): its runs between cut points. Written by a program of this repo (gen). -/
set_option linter.unusedVariables false
set_option linter.unusedSimpArgs false
set_option maxRecDepth 100000
namespace Go.Proofs.YthlhnglkechkaaaGreatDoor
open Go Go.Am Go.Proofs
noncomputable section
def ext31 : Ext := [(59, S59)]
theorem call31_59 : Callable Tryz.prog 59 := ⟨Tryz.f59, Tryz.func59, by kernel_rfl, by kernel_rfl⟩
theorem ext31Ok : ExtOk Tryz.prog ext31 := ⟨⟨call31_59, con59⟩, trivial⟩

noncomputable def b31 : Code := bodyOf Tryz.f31
theorem hb31 : Tryz.f31.body = some b31 := by kernel_rfl
def sig31 : List AT := [AT.v (Ty.int .i64)]
def tys31 : List Ty := [Ty.bool]
def kds31 : List RK := []
def oks31 : List AT := owns sig31
def P31 (x0 : Int) : Prop := True
def g31_0 (x0 : Int) : Bool := g59_0 x0 0 1440
theorem p31_0 (x0 : Int) : runF tab ext31 false 5 [] 2000 [] oks31 kds31 tys31 Tryz.f31.results [] [.code b31] (entE 0 0 sig31 (x0, ())) (entL sig31 (x0, ())) = some ([Dyn.mk Ty.bool (g59_0 x0 0 1440)], [], [True]) := by kernel_rfl
theorem at31 (x0 : Int) (h : P31 x0) (K : Ctx) (q : Nat → Value) : AtV Tryz.prog 31 (PostR kds31 oks31 [⟨Ty.bool, g31_0 x0⟩] [] [] q K) 5 K q [] [.code b31] (entE 0 0 sig31 (x0, ())) (entL sig31 (x0, ())) := by
  unfold P31 at h
  unfold g31_0
  exact AtV.fin Tryz.func31 tabOk ext31Ok mixed (p31_0 x0) ⟨trivial, trivial⟩

def S31 : Am.Spec := { sig := sig31, pre := fun ⟨x0, _⟩ => P31 x0, res := fun ⟨x0, _⟩ => [⟨Ty.bool, g31_0 x0⟩], kds := kds31 }
theorem con31 : Contract Tryz.prog 31 S31 := contract_of Tryz.func31 hb31 (Nat.le_of_ble_eq_true (by kernel_rfl)) (fun ⟨x0, _⟩ h _ K q => at31 x0 h K q)


end
end Go.Proofs.YthlhnglkechkaaaGreatDoor

/- Function 68 (impl.validRide): its runs between cut points. Written by a program of this repo (gen). -/
set_option linter.unusedVariables false
set_option linter.unusedSimpArgs false
set_option maxRecDepth 100000
namespace Go.Proofs.YthlhnglkechkaaaGreatDoor
open Go Go.Am Go.Proofs
noncomputable section
def ext68 : Ext := [(31, S31), (59, S59)]
theorem call68_31 : Callable Tryz.prog 31 := ⟨Tryz.f31, Tryz.func31, by kernel_rfl, by kernel_rfl⟩
theorem call68_59 : Callable Tryz.prog 59 := ⟨Tryz.f59, Tryz.func59, by kernel_rfl, by kernel_rfl⟩
theorem ext68Ok : ExtOk Tryz.prog ext68 := ⟨⟨call68_31, con31⟩, ⟨call68_59, con59⟩, trivial⟩

noncomputable def b68 : Code := bodyOf Tryz.f68
theorem hb68 : Tryz.f68.body = some b68 := by kernel_rfl
def sig68 : List AT := [AT.v (Ty.cons (Ty.int .i64) (Ty.cons (Ty.int .i64) Ty.unit))]
def tys68 : List Ty := [Ty.bool]
def kds68 : List RK := []
def oks68 : List AT := owns sig68
def P68 (x0 : Int × Int × Unit) : Prop := (if (g31_0 x0.1) = true then (if (g59_0 x0.2.1 1 1440) = true then ((InR .i64 (x0.1 + x0.2.1)) ∧ True) else True) else True)
def g68_0 (x0 : Int × Int × Unit) : Bool := (if (g31_0 x0.1) = true then (if (g59_0 x0.2.1 1 1440) = true then decide (x0.1 + x0.2.1 ≤ 1440) else false) else false)
theorem p68_0 (x0 : Int × Int × Unit) : runF tab ext68 false 19 [] 2000 [] oks68 kds68 tys68 Tryz.f68.results [true, true] [.code b68] (entE 0 0 sig68 (x0, ())) (entL sig68 (x0, ())) = some ([Dyn.mk Ty.bool (decide (x0.1 + x0.2.1 ≤ 1440))], [], [True, g31_0 x0.1 = true, True, g59_0 x0.2.1 1 1440 = true, InR .i64 (x0.1 + x0.2.1)]) := by kernel_rfl
theorem p68_1 (x0 : Int × Int × Unit) : runF tab ext68 false 19 [] 2000 [] oks68 kds68 tys68 Tryz.f68.results [true, false] [.code b68] (entE 0 0 sig68 (x0, ())) (entL sig68 (x0, ())) = some ([Dyn.mk Ty.bool false], [], [True, g31_0 x0.1 = true, True, g59_0 x0.2.1 1 1440 = false]) := by kernel_rfl
theorem p68_2 (x0 : Int × Int × Unit) : runF tab ext68 false 19 [] 2000 [] oks68 kds68 tys68 Tryz.f68.results [false, false] [.code b68] (entE 0 0 sig68 (x0, ())) (entL sig68 (x0, ())) = some ([Dyn.mk Ty.bool false], [], [True, g31_0 x0.1 = false, false = false]) := by kernel_rfl
theorem at68 (x0 : Int × Int × Unit) (h : P68 x0) (K : Ctx) (q : Nat → Value) : AtV Tryz.prog 68 (PostR kds68 oks68 [⟨Ty.bool, g68_0 x0⟩] [] [] q K) 19 K q [] [.code b68] (entE 0 0 sig68 (x0, ())) (entL sig68 (x0, ())) := by
  unfold P68 at h
  unfold g68_0
  by_cases b0 : (g31_0 x0.1) = true
  · try simp only [if_pos b0] at h ⊢
    by_cases b1 : (g59_0 x0.2.1 1 1440) = true
    · try simp only [if_pos b1] at h ⊢
      obtain ⟨s0, h⟩ := h
      exact AtV.fin Tryz.func68 tabOk ext68Ok mixed (p68_0 x0) ⟨trivial, b0, trivial, b1, s0, trivial⟩
    · try simp only [if_neg b1] at h ⊢
      replace b1 := Bool.eq_false_iff.2 b1
      exact AtV.fin Tryz.func68 tabOk ext68Ok mixed (p68_1 x0) ⟨trivial, b0, trivial, b1, trivial⟩
  · try simp only [if_neg b0] at h ⊢
    replace b0 := Bool.eq_false_iff.2 b0
    exact AtV.fin Tryz.func68 tabOk ext68Ok mixed (p68_2 x0) ⟨trivial, b0, rfl, trivial⟩

def S68 : Am.Spec := { sig := sig68, pre := fun ⟨x0, _⟩ => P68 x0, res := fun ⟨x0, _⟩ => [⟨Ty.bool, g68_0 x0⟩], kds := kds68 }
theorem con68 : Contract Tryz.prog 68 S68 := contract_of Tryz.func68 hb68 (Nat.le_of_ble_eq_true (by kernel_rfl)) (fun ⟨x0, _⟩ h _ K q => at68 x0 h K q)


end
end Go.Proofs.YthlhnglkechkaaaGreatDoor

/- Function 69 ((impl.Ride).ends): its runs between cut points. Written by a program of this repo (gen). -/
set_option linter.unusedVariables false
set_option linter.unusedSimpArgs false
set_option maxRecDepth 100000
namespace Go.Proofs.YthlhnglkechkaaaGreatDoor
open Go Go.Am Go.Proofs
noncomputable section
def ext69 : Ext := []
theorem ext69Ok : ExtOk Tryz.prog ext69 := trivial

noncomputable def b69 : Code := bodyOf Tryz.f69
theorem hb69 : Tryz.f69.body = some b69 := by kernel_rfl
def sig69 : List AT := [AT.v (Ty.cons (Ty.int .i64) (Ty.cons (Ty.int .i64) Ty.unit))]
def tys69 : List Ty := [Ty.int .i64]
def kds69 : List RK := []
def oks69 : List AT := owns sig69
def P69 (x0 : Int × Int × Unit) : Prop := ((InR .i64 (x0.1 + x0.2.1)) ∧ True)
def g69_0 (x0 : Int × Int × Unit) : Int := x0.1 + x0.2.1
theorem p69_0 (x0 : Int × Int × Unit) : runF tab ext69 false 8 [] 2000 [] oks69 kds69 tys69 Tryz.f69.results [] [.code b69] (entE 0 0 sig69 (x0, ())) (entL sig69 (x0, ())) = some ([Dyn.mk (Ty.int .i64) (x0.1 + x0.2.1)], [], [InR .i64 (x0.1 + x0.2.1)]) := by kernel_rfl
theorem at69 (x0 : Int × Int × Unit) (h : P69 x0) (K : Ctx) (q : Nat → Value) : AtV Tryz.prog 69 (PostR kds69 oks69 [⟨Ty.int .i64, g69_0 x0⟩] [] [] q K) 8 K q [] [.code b69] (entE 0 0 sig69 (x0, ())) (entL sig69 (x0, ())) := by
  unfold P69 at h
  unfold g69_0
  obtain ⟨s0, h⟩ := h
  exact AtV.fin Tryz.func69 tabOk ext69Ok mixed (p69_0 x0) ⟨s0, trivial⟩

def S69 : Am.Spec := { sig := sig69, pre := fun ⟨x0, _⟩ => P69 x0, res := fun ⟨x0, _⟩ => [⟨Ty.int .i64, g69_0 x0⟩], kds := kds69 }
theorem con69 : Contract Tryz.prog 69 S69 := contract_of Tryz.func69 hb69 (Nat.le_of_ble_eq_true (by kernel_rfl)) (fun ⟨x0, _⟩ h _ K q => at69 x0 h K q)


end
end Go.Proofs.YthlhnglkechkaaaGreatDoor

/- Function 30 (impl.ValidTimetable): its runs between cut points. Written by a program of this repo (gen). -/
set_option linter.unusedVariables false
set_option linter.unusedSimpArgs false
set_option maxRecDepth 100000
namespace Go.Proofs.YthlhnglkechkaaaGreatDoor
open Go Go.Am Go.Proofs
noncomputable section
def ext30 : Ext := [(68, S68), (69, S69)]
theorem call30_68 : Callable Tryz.prog 68 := ⟨Tryz.f68, Tryz.func68, by kernel_rfl, by kernel_rfl⟩
theorem call30_69 : Callable Tryz.prog 69 := ⟨Tryz.f69, Tryz.func69, by kernel_rfl, by kernel_rfl⟩
theorem ext30Ok : ExtOk Tryz.prog ext30 := ⟨⟨call30_68, con68⟩, ⟨call30_69, con69⟩, trivial⟩

noncomputable def b30 : Code := bodyOf Tryz.f30
theorem hb30 : Tryz.f30.body = some b30 := by kernel_rfl
def sig30 : List AT := [AT.v (Ty.sl (Ty.cons (Ty.int .i64) (Ty.cons (Ty.int .i64) Ty.unit)))]
def tys30 : List Ty := [Ty.bool]
def kds30 : List RK := []
def oks30 : List AT := owns sig30
def E30_2 (v7 : Int) (x0 : List TyB3) : Env := [(0, PV.a (Atom.sl (Ty.cons (Ty.int .i64) (Ty.cons (Ty.int .i64) Ty.unit)) x0)), (5, PV.a (Atom.sl (Ty.cons (Ty.int .i64) (Ty.cons (Ty.int .i64) Ty.unit)) x0)), (6, PV.a (Atom.val (Value.int .i64 (↑(List.length x0) : Int)))), (7, PV.a (Atom.val (Value.int .i64 v7)))]
def L30_2 (v7 : Int) (x0 : List TyB3) : Heap := []
mutual
def R30 : Nat → List TyB3 → List Dyn → Prop
  | 0, _, _ => False
  | n + 1, x0, ds => (R30_2 n (0) (x0) ds)
def R30_2 : Nat → Int → List TyB3 → List Dyn → Prop
  | 0, _, _, _ => False
  | n + 1, v7, x0, ds => (if (decide (v7 < (↑(List.length x0) : Int))) = true then ((0 ≤ v7) ∧ (v7 < (↑(List.length x0) : Int)) ∧ ((P68 (List.getD x0 (Int.toNat v7) (0, 0, ()))) ∧ (if (!g68_0 (List.getD x0 (Int.toNat v7) (0, 0, ()))) = true then (ds = [Dyn.mk Ty.bool false]) else (if (decide (v7 > 0)) = true then ((InR .i64 (v7 - 1)) ∧ ((0 ≤ v7 - 1) ∧ (v7 - 1 < (↑(List.length x0) : Int)) ∧ ((P69 (List.getD x0 (Int.toNat (v7 - 1)) (0, 0, ()))) ∧ (if (decide ((List.getD x0 (Int.toNat v7) (0, 0, ())).1 < g69_0 (List.getD x0 (Int.toNat (v7 - 1)) (0, 0, ())))) = true then (ds = [Dyn.mk Ty.bool false]) else ((InR .i64 (v7 + 1)) ∧ (R30_2 n (v7 + 1) (x0) ds)))))) else ((InR .i64 (v7 + 1)) ∧ (R30_2 n (v7 + 1) (x0) ds)))))) else (ds = [Dyn.mk Ty.bool (decide ((↑(List.length x0) : Int) ≤ 24))]))
end
theorem p30_0 (x0 : List TyB3) : Am.runN tab ext30 false 34 [] 2000 [] [] [0, 5, 6, 7] [] [] [.code b30] (entE 0 0 sig30 (x0, ())) (entL sig30 (x0, ())) = some (cutAt b30 2, E30_2 (0) (x0), L30_2 (0) (x0), []) := by kernel_rfl
theorem p30_1 (v7 : Int) (x0 : List TyB3) : runF tab ext30 false 34 [] 2000 [] oks30 kds30 tys30 Tryz.f30.results [true, true, true] (cutAt b30 2) (E30_2 v7 x0) (L30_2 v7 x0) = some ([Dyn.mk Ty.bool false], [], [decide (v7 < (↑(List.length x0) : Int)) = true, 0 ≤ v7, v7 < (↑(List.length x0) : Int), P68 (List.getD x0 (Int.toNat v7) (0, 0, ())), (!g68_0 (List.getD x0 (Int.toNat v7) (0, 0, ()))) = true, true = true]) := by kernel_rfl
theorem p30_2 (v7 : Int) (x0 : List TyB3) : runF tab ext30 false 34 [] 2000 [] oks30 kds30 tys30 Tryz.f30.results [true, false, true, true] (cutAt b30 2) (E30_2 v7 x0) (L30_2 v7 x0) = some ([Dyn.mk Ty.bool false], [], [decide (v7 < (↑(List.length x0) : Int)) = true, 0 ≤ v7, v7 < (↑(List.length x0) : Int), P68 (List.getD x0 (Int.toNat v7) (0, 0, ())), (!g68_0 (List.getD x0 (Int.toNat v7) (0, 0, ()))) = false, decide (v7 > 0) = true, InR .i64 (v7 - 1), 0 ≤ v7 - 1, v7 - 1 < (↑(List.length x0) : Int), P69 (List.getD x0 (Int.toNat (v7 - 1)) (0, 0, ())), decide ((List.getD x0 (Int.toNat v7) (0, 0, ())).1 < g69_0 (List.getD x0 (Int.toNat (v7 - 1)) (0, 0, ()))) = true]) := by kernel_rfl
theorem p30_3 (v7 : Int) (x0 : List TyB3) : Am.runN tab ext30 false 34 [] 2000 [] [] [0, 5, 6, 7] [] [true, false, true, false] (cutAt b30 2) (E30_2 v7 x0) (L30_2 v7 x0) = some (cutAt b30 2, E30_2 (v7 + 1) (x0), L30_2 (v7 + 1) (x0), [decide (v7 < (↑(List.length x0) : Int)) = true, 0 ≤ v7, v7 < (↑(List.length x0) : Int), P68 (List.getD x0 (Int.toNat v7) (0, 0, ())), (!g68_0 (List.getD x0 (Int.toNat v7) (0, 0, ()))) = false, decide (v7 > 0) = true, InR .i64 (v7 - 1), 0 ≤ v7 - 1, v7 - 1 < (↑(List.length x0) : Int), P69 (List.getD x0 (Int.toNat (v7 - 1)) (0, 0, ())), decide ((List.getD x0 (Int.toNat v7) (0, 0, ())).1 < g69_0 (List.getD x0 (Int.toNat (v7 - 1)) (0, 0, ()))) = false, InR .i64 (v7 + 1)]) := by kernel_rfl
theorem p30_4 (v7 : Int) (x0 : List TyB3) : Am.runN tab ext30 false 34 [] 2000 [] [] [0, 5, 6, 7] [] [true, false, false, false] (cutAt b30 2) (E30_2 v7 x0) (L30_2 v7 x0) = some (cutAt b30 2, E30_2 (v7 + 1) (x0), L30_2 (v7 + 1) (x0), [decide (v7 < (↑(List.length x0) : Int)) = true, 0 ≤ v7, v7 < (↑(List.length x0) : Int), P68 (List.getD x0 (Int.toNat v7) (0, 0, ())), (!g68_0 (List.getD x0 (Int.toNat v7) (0, 0, ()))) = false, decide (v7 > 0) = false, false = false, InR .i64 (v7 + 1)]) := by kernel_rfl
theorem p30_5 (v7 : Int) (x0 : List TyB3) : runF tab ext30 false 34 [] 2000 [] oks30 kds30 tys30 Tryz.f30.results [false] (cutAt b30 2) (E30_2 v7 x0) (L30_2 v7 x0) = some ([Dyn.mk Ty.bool (decide ((↑(List.length x0) : Int) ≤ 24))], [], [decide (v7 < (↑(List.length x0) : Int)) = false]) := by kernel_rfl
theorem snd30 : ∀ n, (∀ (x0 : List TyB3) ds, R30 n x0 ds → ∀ K q, AtV Tryz.prog 30 (PostR kds30 oks30 ds [] [] q K) 34 K q [] [.code b30] (entE 0 0 sig30 (x0, ())) (entL sig30 (x0, ()))) ∧ (∀ (v7 : Int) (x0 : List TyB3) ds, R30_2 n v7 x0 ds → ∀ K q, AtV Tryz.prog 30 (PostR kds30 oks30 ds [] [] q K) 34 K q [] (cutAt b30 2) (E30_2 v7 x0) (L30_2 v7 x0)) := by
  intro n
  induction n with
  | zero => exact ⟨fun _ _ h => by simp only [R30] at h, fun _ _ _ h => by simp only [R30_2] at h⟩
  | succ n ih =>
  obtain ⟨ih, ih2⟩ := ih
  refine ⟨?_, ?_⟩
  · intro x0 ds h K q
    rw [R30] at h
    exact AtV.runN tabOk ext30Ok mixed (p30_0 x0) trivial (ih2 _ _ _ h K q)

  · intro v7 x0 ds h K q
    rw [R30_2] at h
    by_cases b0 : (decide (v7 < (↑(List.length x0) : Int))) = true
    · rw [if_pos b0] at h
      obtain ⟨s0, s1, h⟩ := h
      obtain ⟨s2, h⟩ := h
      by_cases b1 : (!g68_0 (List.getD x0 (Int.toNat v7) (0, 0, ()))) = true
      · rw [if_pos b1] at h
        subst h
        exact AtV.fin Tryz.func30 tabOk ext30Ok mixed (p30_1 v7 x0) ⟨b0, s0, s1, s2, b1, rfl, trivial⟩
      · rw [if_neg b1] at h
        replace b1 := Bool.eq_false_iff.2 b1
        by_cases b2 : (decide (v7 > 0)) = true
        · rw [if_pos b2] at h
          obtain ⟨s3, h⟩ := h
          obtain ⟨s4, s5, h⟩ := h
          obtain ⟨s6, h⟩ := h
          by_cases b3 : (decide ((List.getD x0 (Int.toNat v7) (0, 0, ())).1 < g69_0 (List.getD x0 (Int.toNat (v7 - 1)) (0, 0, ())))) = true
          · rw [if_pos b3] at h
            subst h
            exact AtV.fin Tryz.func30 tabOk ext30Ok mixed (p30_2 v7 x0) ⟨b0, s0, s1, s2, b1, b2, s3, s4, s5, s6, b3, trivial⟩
          · rw [if_neg b3] at h
            replace b3 := Bool.eq_false_iff.2 b3
            obtain ⟨s7, h⟩ := h
            exact AtV.runN tabOk ext30Ok mixed (p30_3 v7 x0) ⟨b0, s0, s1, s2, b1, b2, s3, s4, s5, s6, b3, s7, trivial⟩ (ih2 _ _ _ h K q)
        · rw [if_neg b2] at h
          replace b2 := Bool.eq_false_iff.2 b2
          obtain ⟨s3, h⟩ := h
          exact AtV.runN tabOk ext30Ok mixed (p30_4 v7 x0) ⟨b0, s0, s1, s2, b1, b2, rfl, s3, trivial⟩ (ih2 _ _ _ h K q)
    · rw [if_neg b0] at h
      replace b0 := Bool.eq_false_iff.2 b0
      subst h
      exact AtV.fin Tryz.func30 tabOk ext30Ok mixed (p30_5 v7 x0) ⟨b0, trivial⟩



def one30 (x : TyB3) : Bool := g68_0 x
def ok30 (x0 : List TyB3) (i : Nat) (x : TyB3) : Bool := one30 x && (i == 0 || decide ((x0.getD (i - 1) ((0 : Int), (0 : Int), ())).1 + (x0.getD (i - 1) ((0 : Int), (0 : Int), ())).2.1 ≤ x.1))
def g30_0 (x0 : List TyB3) : Bool := allI (ok30 x0) 0 x0 && decide ((x0.length : Int) ≤ 24)
def P30 (x0 : List TyB3) : Prop := True

theorem in30 {x a b : Int} : g59_0 x a b = true ↔ a ≤ x ∧ x ≤ b := by
  unfold g59_0
  by_cases c1 : x ≥ a
  · by_cases c2 : x ≤ b
    · simp [c1, c2]
    · simp [c1, c2]
  · have : ¬ a ≤ x := c1
    simp [c1, this]

theorem one30_pre (x : TyB3) : P68 x := by
  unfold P68
  split
  · rename_i h1
    split
    · rename_i h2
      have h1 := in30.1 (show g59_0 x.1 0 1440 = true from h1)
      have h2 := in30.1 (show g59_0 x.2.1 1 1440 = true from h2)
      exact ⟨by rw [i64_iff]; omega, trivial⟩
    · trivial
  · trivial

theorem one30_b {x : TyB3} (h : one30 x = true) : (0 ≤ x.1 ∧ x.1 ≤ 1440) ∧ (1 ≤ x.2.1 ∧ x.2.1 ≤ 1440) := by
  unfold one30 g68_0 at h
  split at h
  · rename_i h0
    split at h
    · rename_i h1
      exact ⟨in30.1 h0, in30.1 h1⟩
    · cases h
  · cases h

theorem run30 (x0 : List TyB3) (hm : x0.length ≤ maxLen) : ∀ (k i : Nat), i + k = x0.length → (∀ j, j < i → one30 (x0.getD j ((0 : Int), (0 : Int), ())) = true) →
    R30_2 (k + 1) (i : Int) x0 [⟨.bool, allI (ok30 x0) i (x0.drop i) && decide ((x0.length : Int) ≤ 24)⟩] := by
  intro k
  induction k with
  | zero =>
    intro i hi _
    rw [R30_2, if_neg (by simp only [decide_eq_true_eq]; omega), drop_end _ _ (by omega)]
    rfl
  | succ k ih =>
    intro i hi hp
    have hlt : i < x0.length := by omega
    have hu := inR_up hm hlt
    have hmx : maxLen ≤ 9223372036854775807 := by decide
    rw [R30_2, if_pos (by simp only [decide_eq_true_eq]; omega), drop_get x0 i ((0 : Int), (0 : Int), ()) hlt]
    simp only [Int.toNat_natCast, allI]
    refine ⟨by omega, by omega, one30_pre _, ?_⟩
    cases h1 : one30 (x0.getD i ((0 : Int), (0 : Int), ())) with
    | false =>
      unfold one30 at h1
      rw [if_pos (by rw [h1]; rfl)]
      have : ok30 x0 i (x0.getD i ((0 : Int), (0 : Int), ())) = false := by unfold ok30 one30; rw [h1]; rfl
      rw [this]; rfl
    | true =>
      have h1' := h1
      unfold one30 at h1
      rw [if_neg (by rw [h1]; simp)]
      have hnext := ih (i + 1) (by omega) (fun j hj => by
        rcases Nat.lt_or_ge j i with h | h
        · exact hp j h
        · have : j = i := by omega
          subst this; exact h1')
      have e1 : (((i + 1 : Nat)) : Int) = (i : Int) + 1 := by omega
      rw [e1] at hnext
      by_cases h0 : (i : Int) > 0
      · rw [if_pos (by simpa using h0)]
        have hi0 : (i == 0) = false := by simp; omega
        have e : ((i : Int) - 1).toNat = i - 1 := by omega
        obtain ⟨b1, b2⟩ := one30_b (hp (i - 1) (by omega))
        have hd : InR .i64 ((i : Int) - 1) := by rw [i64_iff]; omega
        simp only [e]
        refine ⟨hd, by omega, by omega, ⟨by rw [i64_iff]; show _ ≤ (x0.getD (i - 1) ((0 : Int), (0 : Int), ())).1 + (x0.getD (i - 1) ((0 : Int), (0 : Int), ())).2.1 ∧ _; omega, trivial⟩, ?_⟩
        by_cases hc : (x0.getD (i - 1) ((0 : Int), (0 : Int), ())).1 + (x0.getD (i - 1) ((0 : Int), (0 : Int), ())).2.1 ≤ (x0.getD i ((0 : Int), (0 : Int), ())).1
        · rw [if_neg (by show ¬ decide ((x0.getD i ((0 : Int), (0 : Int), ())).1 < (x0.getD (i - 1) ((0 : Int), (0 : Int), ())).1 + (x0.getD (i - 1) ((0 : Int), (0 : Int), ())).2.1) = true; rw [decide_eq_true_eq]; omega)]
          have : ok30 x0 i (x0.getD i ((0 : Int), (0 : Int), ())) = true := by unfold ok30; rw [h1', hi0, decide_eq_true hc]; rfl
          rw [this, Bool.true_and]
          exact ⟨hu, hnext⟩
        · rw [if_pos (by show decide ((x0.getD i ((0 : Int), (0 : Int), ())).1 < (x0.getD (i - 1) ((0 : Int), (0 : Int), ())).1 + (x0.getD (i - 1) ((0 : Int), (0 : Int), ())).2.1) = true; rw [decide_eq_true_eq]; omega)]
          have : ok30 x0 i (x0.getD i ((0 : Int), (0 : Int), ())) = false := by unfold ok30; rw [hi0, decide_eq_false hc, Bool.or_false, Bool.and_false]
          rw [this, Bool.false_and, Bool.false_and]
      · rw [if_neg (by simpa using h0)]
        have hi0 : (i == 0) = true := by simp; omega
        have : ok30 x0 i (x0.getD i ((0 : Int), (0 : Int), ())) = true := by unfold ok30; rw [h1', hi0]; rfl
        rw [this, Bool.true_and]
        exact ⟨hu, hnext⟩

theorem top30 (x0 : List TyB3) (hw : x0.length ≤ maxLen) : R30 (x0.length + 1 + 1) x0 [⟨.bool, g30_0 x0⟩] := by
  rw [R30]
  exact run30 x0 hw x0.length 0 (by omega) (fun j hj => by omega)

def S30 : Am.Spec := { sig := sig30, pre := fun ⟨x0, _⟩ => P30 x0, res := fun ⟨x0, _⟩ => [⟨Ty.bool, g30_0 x0⟩] }
theorem con30 : Contract Tryz.prog 30 S30 := contract_of Tryz.func30 hb30 (Nat.le_of_ble_eq_true (by kernel_rfl)) (fun ⟨x0, _⟩ h hwf K q =>
  (snd30 _).1 x0 _ (top30 x0 hwf.1.1) K q)

end
end Go.Proofs.YthlhnglkechkaaaGreatDoor

/- Function 91 (impl.isMinute): its runs between cut points. Written by a program of this repo (gen). -/
set_option linter.unusedVariables false
set_option linter.unusedSimpArgs false
set_option maxRecDepth 100000
namespace Go.Proofs.YthlhnglkechkaaaGreatDoor
open Go Go.Am Go.Proofs
noncomputable section
def ext91 : Ext := [(59, S59)]
theorem call91_59 : Callable Tryz.prog 59 := ⟨Tryz.f59, Tryz.func59, by kernel_rfl, by kernel_rfl⟩
theorem ext91Ok : ExtOk Tryz.prog ext91 := ⟨⟨call91_59, con59⟩, trivial⟩

noncomputable def b91 : Code := bodyOf Tryz.f91
theorem hb91 : Tryz.f91.body = some b91 := by kernel_rfl
def sig91 : List AT := [AT.v (Ty.int .i64)]
def tys91 : List Ty := [Ty.bool]
def kds91 : List RK := []
def oks91 : List AT := owns sig91
def P91 (x0 : Int) : Prop := True
def g91_0 (x0 : Int) : Bool := g59_0 x0 0 1439
theorem p91_0 (x0 : Int) : runF tab ext91 false 5 [] 2000 [] oks91 kds91 tys91 Tryz.f91.results [] [.code b91] (entE 0 0 sig91 (x0, ())) (entL sig91 (x0, ())) = some ([Dyn.mk Ty.bool (g59_0 x0 0 1439)], [], [True]) := by kernel_rfl
theorem at91 (x0 : Int) (h : P91 x0) (K : Ctx) (q : Nat → Value) : AtV Tryz.prog 91 (PostR kds91 oks91 [⟨Ty.bool, g91_0 x0⟩] [] [] q K) 5 K q [] [.code b91] (entE 0 0 sig91 (x0, ())) (entL sig91 (x0, ())) := by
  unfold P91 at h
  unfold g91_0
  exact AtV.fin Tryz.func91 tabOk ext91Ok mixed (p91_0 x0) ⟨trivial, trivial⟩

def S91 : Am.Spec := { sig := sig91, pre := fun ⟨x0, _⟩ => P91 x0, res := fun ⟨x0, _⟩ => [⟨Ty.bool, g91_0 x0⟩], kds := kds91 }
theorem con91 : Contract Tryz.prog 91 S91 := contract_of Tryz.func91 hb91 (Nat.le_of_ble_eq_true (by kernel_rfl)) (fun ⟨x0, _⟩ h _ K q => at91 x0 h K q)


end
end Go.Proofs.YthlhnglkechkaaaGreatDoor

/- The contracts of the library that this program uses, laid at this program. Written by a tool of the kit. -/
set_option linter.unusedVariables false
set_option maxRecDepth 100000
namespace Go.Proofs
open Go.Shelf
def Tryz.lays146_ren : Go.Shelf.Ren := ⟨fun | 146 => 100 | 221 => 108 | 268 => 111 | 138 => 112 | 143 => 113 | 195 => 115 | 197 => 116 | 218 => 117 | 219 => 118 | 260 => 119 | 217 => 120 | 225 => 121 | 224 => 122 | 267 => 123 | 266 => 124 | 314 => 125 | n => n, fun | 9 => 9 | 31 => 150 | 3 => 3 | 4 => 4 | 0 => 0 | 105 => 161 | 21 => 21 | 5 => 5 | 46 => 165 | 119 => 166 | 139 => 169 | 138 => 168 | 146 => 171 | 51 => 170 | n => n, fun | 1 => 0 | 3 => 1 | 4 => 2 | n => n⟩
theorem Tryz.lays146 : Go.Proofs.Lays.n146 Tryz.prog Tryz.lays146_ren := {
  mixed := by kernel_rfl
  f138 := Tryz.func112.trans (congrArg some (by kernel_rfl))
  f143 := Tryz.func113.trans (congrArg some (by kernel_rfl))
  f146 := Tryz.func100.trans (congrArg some (by kernel_rfl))
  f195 := Tryz.func115.trans (congrArg some (by kernel_rfl))
  f197 := Tryz.func116.trans (congrArg some (by kernel_rfl))
  f217 := Tryz.func120.trans (congrArg some (by kernel_rfl))
  f218 := Tryz.func117.trans (congrArg some (by kernel_rfl))
  f219 := Tryz.func118.trans (congrArg some (by kernel_rfl))
  f221 := Tryz.func108.trans (congrArg some (by kernel_rfl))
  f224 := Tryz.func122.trans (congrArg some (by kernel_rfl))
  f225 := Tryz.func121.trans (congrArg some (by kernel_rfl))
  f260 := Tryz.func119.trans (congrArg some (by kernel_rfl))
  f266 := Tryz.func124.trans (congrArg some (by kernel_rfl))
  f267 := Tryz.func123.trans (congrArg some (by kernel_rfl))
  f268 := Tryz.func111.trans (congrArg some (by kernel_rfl))
  f314 := Tryz.func125.trans (congrArg some (by kernel_rfl))
  t0 := Tryz.underlying0
  a0 := Tryz.isAgg0
  z0 := Tryz.sizeOf0
  v0 := Tryz.zeroValue0
  t3 := Tryz.underlying3
  a3 := Tryz.isAgg3
  z3 := Tryz.sizeOf3
  v3 := Tryz.zeroValue3
  t4 := Tryz.underlying4
  a4 := Tryz.isAgg4
  z4 := Tryz.sizeOf4
  v4 := Tryz.zeroValue4
  t5 := Tryz.underlying5
  a5 := Tryz.isAgg5
  z5 := Tryz.sizeOf5
  v5 := Tryz.zeroValue5
  t9 := Tryz.underlying9
  a9 := Tryz.isAgg9
  z9 := Tryz.sizeOf9
  v9 := Tryz.zeroValue9
  t21 := Tryz.underlying21
  a21 := Tryz.isAgg21
  z21 := Tryz.sizeOf21
  v21 := Tryz.zeroValue21
  t31 := Tryz.underlying150
  a31 := Tryz.isAgg150
  z31 := Tryz.sizeOf150
  v31 := Tryz.zeroValue150
  t46 := Tryz.underlying165
  a46 := Tryz.isAgg165
  z46 := Tryz.sizeOf165
  v46 := Tryz.zeroValue165
  t51 := Tryz.underlying170
  a51 := Tryz.isAgg170
  z51 := Tryz.sizeOf170
  v51 := Tryz.zeroValue170
  t105 := Tryz.underlying161
  a105 := Tryz.isAgg161
  z105 := Tryz.sizeOf161
  v105 := Tryz.zeroValue161
  t119 := Tryz.underlying166
  a119 := Tryz.isAgg166
  z119 := Tryz.sizeOf166
  t138 := Tryz.underlying168
  a138 := Tryz.isAgg168
  z138 := Tryz.sizeOf168
  v138 := Tryz.zeroValue168
  t139 := Tryz.underlying169
  a139 := Tryz.isAgg169
  z139 := Tryz.sizeOf169
  v139 := Tryz.zeroValue169
  t146 := Tryz.underlying171
  a146 := Tryz.isAgg171
  z146 := Tryz.sizeOf171
  v146 := Tryz.zeroValue171
  g1 := by kernel_rfl
  g3 := by kernel_rfl
  g4 := by kernel_rfl }
open Go.RowKit Go.Lib in theorem Tryz.strings_Split (s sep : ByteArray) (m : Int) (w : World) (hs : s.size < 4294967281) (hm : w.cell? ⟨0, 0, none⟩ = some (.int .i64 m)) (h1 : 1 ≤ sep.size) :
    Calls Tryz.prog 100 #[.string s, .string sep] w fun e w' =>
      e = .returned (.slice (some ⟨w.heap.size, 0, none⟩) (Lib.countB s sep + 1) (Lib.countB s sep + 1)) ∧ w' = w.alloc (.cells ((Lib.splitB sep 0 (Lib.countB s sep) s).map Value.string).toArray 9) := Any.strings_Split Tryz.lays146 (by kernel_rfl) s sep m w hs hm h1
end Go.Proofs

/- Function 100 (strings.Split): its contract, off what is known of the library. -/
set_option linter.unusedVariables false
set_option linter.unusedSimpArgs false
set_option maxRecDepth 100000
namespace Go.Proofs.YthlhnglkechkaaaGreatDoor
open Go Go.Am Go.Proofs

def sig100 : List AT := [AT.v Ty.str, AT.v Ty.str]
def g100_0 (x0 x1 : ByteArray) : List ByteArray := Lib.splitB x1 0 (Lib.countB x0 x1) x0
def P100 (x0 x1 : ByteArray) : Prop := x0.size < 4294967281 ∧ 1 ≤ x1.size
def S100 : Am.Spec := { sig := sig100, pre := fun ⟨x0, x1, _⟩ => P100 x0 x1, res := fun ⟨x0, x1, _⟩ => [⟨Ty.sl Ty.str, g100_0 x0 x1⟩] }

theorem con100 : Contract Tryz.prog 100 S100 := by
  refine Contract0.up rfl rfl ?_
  rintro w ⟨x0, x1, u⟩ vs bss hgo hp ⟨v0, s0, b0, bs0, rfl, rfl, ⟨rfl, rfl, _⟩, v1, s1, b1, bs1, rfl, rfl, ⟨rfl, rfl, _⟩, rfl, rfl⟩ hn
  obtain ⟨hs, h1⟩ : x0.size < 4294967281 ∧ 1 ≤ x1.size := hp
  obtain ⟨m, hm⟩ := maxLenG hgo.inv
  refine (Tryz.strings_Split x0 x1 m w hs hm h1).mono ?_
  rintro e w' ⟨rfl, rfl⟩
  have hlen : (g100_0 x0 x1).length = Lib.countB x0 x1 + 1 := Lib.splitB_all x1 h1 0 _ _ rfl
  have hle := Lib.countB_le x1 h1 x0.size x0 (Nat.le_refl _)
  have hparts : ∀ y ∈ g100_0 x0 x1, y.size ≤ maxLen := fun y hy => by
    have := splitB_part x1 0 _ _ y hy
    unfold maxLen; omega
  have e1 : ∀ xs : List ByteArray, fcs .str xs = xs.map Value.string := by
    intro xs
    induction xs with
    | nil => rfl
    | cons a r ih => unfold fcs at ih ⊢; rw [List.map_cons, List.flatten_cons, ih]; rfl
  have ho : OwnC (w.alloc (.cells ((g100_0 x0 x1).map Value.string).toArray 9)) (.sl .str) (g100_0 x0 x1) [.slice (some ⟨w.heap.size, 0, none⟩) (Lib.countB x0 x1 + 1) (Lib.countB x0 x1 + 1)] [w.heap.size] :=
    own_flat_mk rfl hparts hlen.symm (Nat.le_of_eq hlen) (by unfold maxLen; omega) (by rw [List.size_toArray, List.length_map, hlen]; simp [Ty.size]) (heap_new w _) (freeS_zero _ _) (fun j u hj => by
      rw [e1] at hj
      rw [Nat.zero_add, ← Array.getElem?_toList]
      exact hj)
  refine ⟨[_], [], [[w.heap.size]], rfl, (Kept.refl _ _).alloc _, ⟨_, _, _, _, _, rfl, rfl, ho, rfl, rfl, rfl⟩, ⟨rfl, rfl⟩, by simp, fun b hb hg => ?_⟩
  simp at hb
  have := hg.1
  omega

end Go.Proofs.YthlhnglkechkaaaGreatDoor

/- Function 110 (impl.isWord$1): its runs between cut points. Written by a program of this repo (gen). -/
set_option linter.unusedVariables false
set_option linter.unusedSimpArgs false
set_option maxRecDepth 100000
namespace Go.Proofs.YthlhnglkechkaaaGreatDoor
open Go Go.Am Go.Proofs
noncomputable section
def ext110 : Ext := []
theorem ext110Ok : ExtOk Tryz.prog ext110 := trivial

noncomputable def b110 : Code := bodyOf Tryz.f110
theorem hb110 : Tryz.f110.body = some b110 := by kernel_rfl
def sig110 : List AT := [AT.v (Ty.int .u8)]
def tys110 : List Ty := [Ty.bool]
def kds110 : List RK := []
def oks110 : List AT := owns sig110
def P110 (x0 : Int) : Prop := True
def g110_0 (x0 : Int) : Bool := (if (decide (x0 < 97)) = true then (if (decide (x0 < 48)) = true then true else decide (x0 > 57)) else (if (decide (x0 > 122)) = true then (if (decide (x0 < 48)) = true then true else decide (x0 > 57)) else false))
theorem p110_0 (x0 : Int) : runF tab ext110 false 17 [] 2000 [] oks110 kds110 tys110 Tryz.f110.results [true, true, true] [.code b110] (entE 0 0 sig110 (x0, ())) (entL sig110 (x0, ())) = some ([Dyn.mk Ty.bool true], [], [decide (x0 < 97) = true, true = true, decide (x0 < 48) = true]) := by kernel_rfl
theorem p110_1 (x0 : Int) : runF tab ext110 false 17 [] 2000 [] oks110 kds110 tys110 Tryz.f110.results [true, true, false] [.code b110] (entE 0 0 sig110 (x0, ())) (entL sig110 (x0, ())) = some ([Dyn.mk Ty.bool (decide (x0 > 57))], [], [decide (x0 < 97) = true, true = true, decide (x0 < 48) = false]) := by kernel_rfl
theorem p110_2 (x0 : Int) : runF tab ext110 false 17 [] 2000 [] oks110 kds110 tys110 Tryz.f110.results [false, true, true] [.code b110] (entE 0 0 sig110 (x0, ())) (entL sig110 (x0, ())) = some ([Dyn.mk Ty.bool true], [], [decide (x0 < 97) = false, decide (x0 > 122) = true, decide (x0 < 48) = true]) := by kernel_rfl
theorem p110_3 (x0 : Int) : runF tab ext110 false 17 [] 2000 [] oks110 kds110 tys110 Tryz.f110.results [false, true, false] [.code b110] (entE 0 0 sig110 (x0, ())) (entL sig110 (x0, ())) = some ([Dyn.mk Ty.bool (decide (x0 > 57))], [], [decide (x0 < 97) = false, decide (x0 > 122) = true, decide (x0 < 48) = false]) := by kernel_rfl
theorem p110_4 (x0 : Int) : runF tab ext110 false 17 [] 2000 [] oks110 kds110 tys110 Tryz.f110.results [false, false] [.code b110] (entE 0 0 sig110 (x0, ())) (entL sig110 (x0, ())) = some ([Dyn.mk Ty.bool false], [], [decide (x0 < 97) = false, decide (x0 > 122) = false]) := by kernel_rfl
theorem at110 (x0 : Int) (h : P110 x0) (K : Ctx) (q : Nat → Value) : AtV Tryz.prog 110 (PostR kds110 oks110 [⟨Ty.bool, g110_0 x0⟩] [] [] q K) 17 K q [] [.code b110] (entE 0 0 sig110 (x0, ())) (entL sig110 (x0, ())) := by
  unfold P110 at h
  unfold g110_0
  by_cases b0 : (decide (x0 < 97)) = true
  · try simp only [if_pos b0] at h ⊢
    by_cases b1 : (decide (x0 < 48)) = true
    · try simp only [if_pos b1] at h ⊢
      exact AtV.fin Tryz.func110 tabOk ext110Ok mixed (p110_0 x0) ⟨b0, rfl, b1, trivial⟩
    · try simp only [if_neg b1] at h ⊢
      replace b1 := Bool.eq_false_iff.2 b1
      exact AtV.fin Tryz.func110 tabOk ext110Ok mixed (p110_1 x0) ⟨b0, rfl, b1, trivial⟩
  · try simp only [if_neg b0] at h ⊢
    replace b0 := Bool.eq_false_iff.2 b0
    by_cases b1 : (decide (x0 > 122)) = true
    · try simp only [if_pos b1] at h ⊢
      by_cases b2 : (decide (x0 < 48)) = true
      · try simp only [if_pos b2] at h ⊢
        exact AtV.fin Tryz.func110 tabOk ext110Ok mixed (p110_2 x0) ⟨b0, b1, b2, trivial⟩
      · try simp only [if_neg b2] at h ⊢
        replace b2 := Bool.eq_false_iff.2 b2
        exact AtV.fin Tryz.func110 tabOk ext110Ok mixed (p110_3 x0) ⟨b0, b1, b2, trivial⟩
    · try simp only [if_neg b1] at h ⊢
      replace b1 := Bool.eq_false_iff.2 b1
      exact AtV.fin Tryz.func110 tabOk ext110Ok mixed (p110_4 x0) ⟨b0, b1, trivial⟩

def S110 : Am.Spec := { sig := sig110, pre := fun ⟨x0, _⟩ => P110 x0, res := fun ⟨x0, _⟩ => [⟨Ty.bool, g110_0 x0⟩], kds := kds110 }
theorem con110 : Contract Tryz.prog 110 S110 := contract_of Tryz.func110 hb110 (Nat.le_of_ble_eq_true (by kernel_rfl)) (fun ⟨x0, _⟩ h _ K q => at110 x0 h K q)


end
end Go.Proofs.YthlhnglkechkaaaGreatDoor

/- Function 114 (slices.IndexFunc[[]byte,byte]): its runs between cut points. Written by a program of this repo (gen). -/
set_option linter.unusedVariables false
set_option linter.unusedSimpArgs false
set_option maxRecDepth 100000
namespace Go.Proofs.YthlhnglkechkaaaGreatDoor
open Go Go.Am Go.Proofs
noncomputable section
def ext114c110 : Ext := [(110, S110)]
theorem call114c110_110 : Callable Tryz.prog 110 := ⟨Tryz.f110, Tryz.func110, by kernel_rfl, by kernel_rfl⟩
theorem ext114c110Ok : ExtOk Tryz.prog ext114c110 := ⟨⟨call114c110_110, con110⟩, trivial⟩

noncomputable def b114c110 : Code := bodyOf Tryz.f114
theorem hb114c110 : Tryz.f114.body = some b114c110 := by kernel_rfl
def sig114c110 : List AT := [AT.v (Ty.sl (Ty.int .u8)), AT.fn 110 []]
def tys114c110 : List Ty := [Ty.int .i64]
def kds114c110 : List RK := []
def oks114c110 : List AT := owns sig114c110
def E114c110_2 (v8 : Int) (x0 : List Int) : Env := [(0, PV.a (Atom.sl (Ty.int .u8) x0)), (1, PV.fn 110 []), (7, PV.a (Atom.val (Value.int .i64 (↑(List.length x0) : Int)))), (8, PV.a (Atom.val (Value.int .i64 v8)))]
def L114c110_2 (v8 : Int) (x0 : List Int) : Heap := []
mutual
def R114c110 : Nat → List Int → List Dyn → Prop
  | 0, _, _ => False
  | n + 1, x0, ds => (R114c110_2 n (0) (x0) ds)
def R114c110_2 : Nat → Int → List Int → List Dyn → Prop
  | 0, _, _, _ => False
  | n + 1, v8, x0, ds => (if (decide (v8 < (↑(List.length x0) : Int))) = true then ((0 ≤ v8) ∧ (v8 < (↑(List.length x0) : Int)) ∧ (if (g110_0 (List.getD x0 (Int.toNat v8) 0)) = true then (ds = [Dyn.mk (Ty.int .i64) v8]) else ((InR .i64 (v8 + 1)) ∧ (R114c110_2 n (v8 + 1) (x0) ds)))) else (ds = [Dyn.mk (Ty.int .i64) (-1)]))
end
theorem p114c110_0 (x0 : List Int) : Am.runN tab ext114c110 false 19 [] 2000 [] [] [0, 1, 7, 8] [] [] [.code b114c110] (entE 0 0 sig114c110 (x0, (), ())) (entL sig114c110 (x0, (), ())) = some (cutAt b114c110 2, E114c110_2 (0) (x0), L114c110_2 (0) (x0), []) := by kernel_rfl
theorem p114c110_1 (v8 : Int) (x0 : List Int) : runF tab ext114c110 false 19 [] 2000 [] oks114c110 kds114c110 tys114c110 Tryz.f114.results [true, true] (cutAt b114c110 2) (E114c110_2 v8 x0) (L114c110_2 v8 x0) = some ([Dyn.mk (Ty.int .i64) v8], [], [decide (v8 < (↑(List.length x0) : Int)) = true, 0 ≤ v8, v8 < (↑(List.length x0) : Int), True, g110_0 (List.getD x0 (Int.toNat v8) 0) = true]) := by kernel_rfl
theorem p114c110_2 (v8 : Int) (x0 : List Int) : Am.runN tab ext114c110 false 19 [] 2000 [] [] [0, 1, 7, 8] [] [true, false] (cutAt b114c110 2) (E114c110_2 v8 x0) (L114c110_2 v8 x0) = some (cutAt b114c110 2, E114c110_2 (v8 + 1) (x0), L114c110_2 (v8 + 1) (x0), [decide (v8 < (↑(List.length x0) : Int)) = true, 0 ≤ v8, v8 < (↑(List.length x0) : Int), True, g110_0 (List.getD x0 (Int.toNat v8) 0) = false, InR .i64 (v8 + 1)]) := by kernel_rfl
theorem p114c110_3 (v8 : Int) (x0 : List Int) : runF tab ext114c110 false 19 [] 2000 [] oks114c110 kds114c110 tys114c110 Tryz.f114.results [false] (cutAt b114c110 2) (E114c110_2 v8 x0) (L114c110_2 v8 x0) = some ([Dyn.mk (Ty.int .i64) (-1)], [], [decide (v8 < (↑(List.length x0) : Int)) = false]) := by kernel_rfl
theorem snd114c110 : ∀ n, (∀ (x0 : List Int) ds, R114c110 n x0 ds → ∀ K q, AtV Tryz.prog 114 (PostR kds114c110 oks114c110 ds [] [] q K) 19 K q [] [.code b114c110] (entE 0 0 sig114c110 (x0, (), ())) (entL sig114c110 (x0, (), ()))) ∧ (∀ (v8 : Int) (x0 : List Int) ds, R114c110_2 n v8 x0 ds → ∀ K q, AtV Tryz.prog 114 (PostR kds114c110 oks114c110 ds [] [] q K) 19 K q [] (cutAt b114c110 2) (E114c110_2 v8 x0) (L114c110_2 v8 x0)) := by
  intro n
  induction n with
  | zero => exact ⟨fun _ _ h => by simp only [R114c110] at h, fun _ _ _ h => by simp only [R114c110_2] at h⟩
  | succ n ih =>
  obtain ⟨ih, ih2⟩ := ih
  refine ⟨?_, ?_⟩
  · intro x0 ds h K q
    rw [R114c110] at h
    exact AtV.runN tabOk ext114c110Ok mixed (p114c110_0 x0) trivial (ih2 _ _ _ h K q)

  · intro v8 x0 ds h K q
    rw [R114c110_2] at h
    by_cases b0 : (decide (v8 < (↑(List.length x0) : Int))) = true
    · rw [if_pos b0] at h
      obtain ⟨s0, s1, h⟩ := h
      by_cases b1 : (g110_0 (List.getD x0 (Int.toNat v8) 0)) = true
      · rw [if_pos b1] at h
        subst h
        exact AtV.fin Tryz.func114 tabOk ext114c110Ok mixed (p114c110_1 v8 x0) ⟨b0, s0, s1, trivial, b1, trivial⟩
      · rw [if_neg b1] at h
        replace b1 := Bool.eq_false_iff.2 b1
        obtain ⟨s2, h⟩ := h
        exact AtV.runN tabOk ext114c110Ok mixed (p114c110_2 v8 x0) ⟨b0, s0, s1, trivial, b1, s2, trivial⟩ (ih2 _ _ _ h K q)
    · rw [if_neg b0] at h
      replace b0 := Bool.eq_false_iff.2 b0
      subst h
      exact AtV.fin Tryz.func114 tabOk ext114c110Ok mixed (p114c110_3 v8 x0) ⟨b0, trivial⟩



def g114c110_0 (x0 : List (Int)) : Int := idx (x0.findIdx? g110_0)
def P114c110 (x0 : List (Int)) : Prop := True

theorem top114c110 (x0 : List (Int)) (hm : x0.length ≤ maxLen) : R114c110 (x0.length + 1 + 1) x0 [⟨.int .i64, g114c110_0 x0⟩] := by
  rw [R114c110]
  have key := loop_find x0 (0 : Int) g110_0 [(⟨.int .i64, -1⟩ : Dyn)] (fun k => [⟨.int .i64, k⟩]) (fun n i ds => R114c110_2 n i x0 ds) (fun n => ?_) (fun n i hi hok ds hr => ?_) (fun n i hi hok => ?_)
  · unfold g114c110_0
    cases h : x0.findIdx? g110_0 <;> rw [h] at key <;> exact key
  · rw [R114c110_2, if_neg (by simp)]
  · rw [R114c110_2, if_pos (by simp; omega)]
    simp only [Int.toNat_natCast]
    refine ⟨by omega, by omega, ?_⟩
    rw [if_neg (by rw [hok]; simp)]
    exact ⟨inR_up hm hi, hr⟩
  · rw [R114c110_2, if_pos (by simp; omega)]
    simp only [Int.toNat_natCast]
    refine ⟨by omega, by omega, ?_⟩
    rw [if_pos hok] <;> trivial

def S114c110 : Am.Spec := { sig := sig114c110, pre := fun ⟨x0, _⟩ => P114c110 x0, res := fun ⟨x0, _⟩ => [⟨Ty.int .i64, g114c110_0 x0⟩] }
theorem con114c110 : Contract Tryz.prog 114 S114c110 := contract_of Tryz.func114 hb114c110 (Nat.le_of_ble_eq_true (by kernel_rfl)) (fun ⟨x0, _⟩ h hwf K q =>
  (snd114c110 _).1 x0 _ (top114c110 x0 hwf.1.1) K q)

theorem any114c110 (x0 : List (Int)) : decide (g114c110_0 x0 ≥ 0) = x0.any g110_0 := by
  have := findIdx_any g110_0 x0
  unfold g114c110_0
  cases h : x0.any g110_0 with
  | true => rw [h] at this; simpa using this
  | false => rw [h] at this; simpa using this

end
end Go.Proofs.YthlhnglkechkaaaGreatDoor

/- Function 109 (slices.ContainsFunc[[]byte,byte]): its runs between cut points. Written by a program of this repo (gen). -/
set_option linter.unusedVariables false
set_option linter.unusedSimpArgs false
set_option maxRecDepth 100000
namespace Go.Proofs.YthlhnglkechkaaaGreatDoor
open Go Go.Am Go.Proofs
noncomputable section
def ext109c110 : Ext := [(114, S114c110), (110, S110)]
theorem call109c110_114 : Callable Tryz.prog 114 := ⟨Tryz.f114, Tryz.func114, by kernel_rfl, by kernel_rfl⟩
theorem call109c110_110 : Callable Tryz.prog 110 := ⟨Tryz.f110, Tryz.func110, by kernel_rfl, by kernel_rfl⟩
theorem ext109c110Ok : ExtOk Tryz.prog ext109c110 := ⟨⟨call109c110_114, con114c110⟩, ⟨call109c110_110, con110⟩, trivial⟩

noncomputable def b109c110 : Code := bodyOf Tryz.f109
theorem hb109c110 : Tryz.f109.body = some b109c110 := by kernel_rfl
def sig109c110 : List AT := [AT.v (Ty.sl (Ty.int .u8)), AT.fn 110 []]
def tys109c110 : List Ty := [Ty.bool]
def kds109c110 : List RK := []
def oks109c110 : List AT := owns sig109c110
def P109c110 (x0 : List Int) : Prop := True
def g109c110_0 (x0 : List Int) : Bool := decide (g114c110_0 x0 ≥ 0)
theorem p109c110_0 (x0 : List Int) : runF tab ext109c110 false 9 [] 2000 [] oks109c110 kds109c110 tys109c110 Tryz.f109.results [] [.code b109c110] (entE 0 0 sig109c110 (x0, (), ())) (entL sig109c110 (x0, (), ())) = some ([Dyn.mk Ty.bool (decide (g114c110_0 x0 ≥ 0))], [], [True]) := by kernel_rfl
theorem at109c110 (x0 : List Int) (h : P109c110 x0) (K : Ctx) (q : Nat → Value) : AtV Tryz.prog 109 (PostR kds109c110 oks109c110 [⟨Ty.bool, g109c110_0 x0⟩] [] [] q K) 9 K q [] [.code b109c110] (entE 0 0 sig109c110 (x0, (), ())) (entL sig109c110 (x0, (), ())) := by
  unfold P109c110 at h
  unfold g109c110_0
  exact AtV.fin Tryz.func109 tabOk ext109c110Ok mixed (p109c110_0 x0) ⟨trivial, trivial⟩

def S109c110 : Am.Spec := { sig := sig109c110, pre := fun ⟨x0, _⟩ => P109c110 x0, res := fun ⟨x0, _⟩ => [⟨Ty.bool, g109c110_0 x0⟩], kds := kds109c110 }
theorem con109c110 : Contract Tryz.prog 109 S109c110 := contract_of Tryz.func109 hb109c110 (Nat.le_of_ble_eq_true (by kernel_rfl)) (fun ⟨x0, _⟩ h _ K q => at109c110 x0 h K q)


end
end Go.Proofs.YthlhnglkechkaaaGreatDoor

/- Function 102 (impl.isWord): its runs between cut points. Written by a program of this repo (gen). -/
set_option linter.unusedVariables false
set_option linter.unusedSimpArgs false
set_option maxRecDepth 100000
namespace Go.Proofs.YthlhnglkechkaaaGreatDoor
open Go Go.Am Go.Proofs
noncomputable section
def ext102 : Ext := [(109, S109c110)]
theorem call102_109 : Callable Tryz.prog 109 := ⟨Tryz.f109, Tryz.func109, by kernel_rfl, by kernel_rfl⟩
theorem ext102Ok : ExtOk Tryz.prog ext102 := ⟨⟨call102_109, con109c110⟩, trivial⟩

noncomputable def b102 : Code := bodyOf Tryz.f102
theorem hb102 : Tryz.f102.body = some b102 := by kernel_rfl
def sig102 : List AT := [AT.v (Ty.str)]
def tys102 : List Ty := [Ty.bool]
def kds102 : List RK := []
def oks102 : List AT := owns sig102
def P102 (x0 : ByteArray) : Prop := True
def g102_0 (x0 : ByteArray) : Bool := (if (!ByteArray.toList x0 == ByteArray.toList (ByteArray.mk #[])) = true then !g109c110_0 (bytesOf x0) else false)
theorem p102_0 (x0 : ByteArray) : runF tab ext102 false 11 [] 2000 [] oks102 kds102 tys102 Tryz.f102.results [true] [.code b102] (entE 0 0 sig102 (x0, ())) (entL sig102 (x0, ())) = some ([Dyn.mk Ty.bool !g109c110_0 (bytesOf x0)], [], [(!ByteArray.toList x0 == ByteArray.toList (ByteArray.mk #[])) = true, True]) := by kernel_rfl
theorem p102_1 (x0 : ByteArray) : runF tab ext102 false 11 [] 2000 [] oks102 kds102 tys102 Tryz.f102.results [false] [.code b102] (entE 0 0 sig102 (x0, ())) (entL sig102 (x0, ())) = some ([Dyn.mk Ty.bool false], [], [(!ByteArray.toList x0 == ByteArray.toList (ByteArray.mk #[])) = false]) := by kernel_rfl
theorem at102 (x0 : ByteArray) (h : P102 x0) (K : Ctx) (q : Nat → Value) : AtV Tryz.prog 102 (PostR kds102 oks102 [⟨Ty.bool, g102_0 x0⟩] [] [] q K) 11 K q [] [.code b102] (entE 0 0 sig102 (x0, ())) (entL sig102 (x0, ())) := by
  unfold P102 at h
  unfold g102_0
  by_cases b0 : (!ByteArray.toList x0 == ByteArray.toList (ByteArray.mk #[])) = true
  · try simp only [if_pos b0] at h ⊢
    exact AtV.fin Tryz.func102 tabOk ext102Ok mixed (p102_0 x0) ⟨b0, trivial, trivial⟩
  · try simp only [if_neg b0] at h ⊢
    replace b0 := Bool.eq_false_iff.2 b0
    exact AtV.fin Tryz.func102 tabOk ext102Ok mixed (p102_1 x0) ⟨b0, trivial⟩

def S102 : Am.Spec := { sig := sig102, pre := fun ⟨x0, _⟩ => P102 x0, res := fun ⟨x0, _⟩ => [⟨Ty.bool, g102_0 x0⟩], kds := kds102 }
theorem con102 : Contract Tryz.prog 102 S102 := contract_of Tryz.func102 hb102 (Nat.le_of_ble_eq_true (by kernel_rfl)) (fun ⟨x0, _⟩ h _ K q => at102 x0 h K q)


end
end Go.Proofs.YthlhnglkechkaaaGreatDoor

/- Function 101 (impl.isText$1): its runs between cut points. Written by a program of this repo (gen). -/
set_option linter.unusedVariables false
set_option linter.unusedSimpArgs false
set_option maxRecDepth 100000
namespace Go.Proofs.YthlhnglkechkaaaGreatDoor
open Go Go.Am Go.Proofs
noncomputable section
def ext101 : Ext := [(102, S102)]
theorem call101_102 : Callable Tryz.prog 102 := ⟨Tryz.f102, Tryz.func102, by kernel_rfl, by kernel_rfl⟩
theorem ext101Ok : ExtOk Tryz.prog ext101 := ⟨⟨call101_102, con102⟩, trivial⟩

noncomputable def b101 : Code := bodyOf Tryz.f101
theorem hb101 : Tryz.f101.body = some b101 := by kernel_rfl
def sig101 : List AT := [AT.v (Ty.str)]
def tys101 : List Ty := [Ty.bool]
def kds101 : List RK := []
def oks101 : List AT := owns sig101
def P101 (x0 : ByteArray) : Prop := True
def g101_0 (x0 : ByteArray) : Bool := !g102_0 x0
theorem p101_0 (x0 : ByteArray) : runF tab ext101 false 6 [] 2000 [] oks101 kds101 tys101 Tryz.f101.results [] [.code b101] (entE 0 0 sig101 (x0, ())) (entL sig101 (x0, ())) = some ([Dyn.mk Ty.bool !g102_0 x0], [], [True]) := by kernel_rfl
theorem at101 (x0 : ByteArray) (h : P101 x0) (K : Ctx) (q : Nat → Value) : AtV Tryz.prog 101 (PostR kds101 oks101 [⟨Ty.bool, g101_0 x0⟩] [] [] q K) 6 K q [] [.code b101] (entE 0 0 sig101 (x0, ())) (entL sig101 (x0, ())) := by
  unfold P101 at h
  unfold g101_0
  exact AtV.fin Tryz.func101 tabOk ext101Ok mixed (p101_0 x0) ⟨trivial, trivial⟩

def S101 : Am.Spec := { sig := sig101, pre := fun ⟨x0, _⟩ => P101 x0, res := fun ⟨x0, _⟩ => [⟨Ty.bool, g101_0 x0⟩], kds := kds101 }
theorem con101 : Contract Tryz.prog 101 S101 := contract_of Tryz.func101 hb101 (Nat.le_of_ble_eq_true (by kernel_rfl)) (fun ⟨x0, _⟩ h _ K q => at101 x0 h K q)


end
end Go.Proofs.YthlhnglkechkaaaGreatDoor

/- Function 107 (slices.IndexFunc[[]string,string]): its runs between cut points. Written by a program of this repo (gen). -/
set_option linter.unusedVariables false
set_option linter.unusedSimpArgs false
set_option maxRecDepth 100000
namespace Go.Proofs.YthlhnglkechkaaaGreatDoor
open Go Go.Am Go.Proofs
noncomputable section
def ext107c101 : Ext := [(101, S101)]
theorem call107c101_101 : Callable Tryz.prog 101 := ⟨Tryz.f101, Tryz.func101, by kernel_rfl, by kernel_rfl⟩
theorem ext107c101Ok : ExtOk Tryz.prog ext107c101 := ⟨⟨call107c101_101, con101⟩, trivial⟩

noncomputable def b107c101 : Code := bodyOf Tryz.f107
theorem hb107c101 : Tryz.f107.body = some b107c101 := by kernel_rfl
def sig107c101 : List AT := [AT.v (Ty.sl Ty.str), AT.fn 101 []]
def tys107c101 : List Ty := [Ty.int .i64]
def kds107c101 : List RK := []
def oks107c101 : List AT := owns sig107c101
def E107c101_2 (v8 : Int) (x0 : List ByteArray) : Env := [(0, PV.a (Atom.sl Ty.str x0)), (1, PV.fn 101 []), (7, PV.a (Atom.val (Value.int .i64 (↑(List.length x0) : Int)))), (8, PV.a (Atom.val (Value.int .i64 v8)))]
def L107c101_2 (v8 : Int) (x0 : List ByteArray) : Heap := []
mutual
def R107c101 : Nat → List ByteArray → List Dyn → Prop
  | 0, _, _ => False
  | n + 1, x0, ds => (R107c101_2 n (0) (x0) ds)
def R107c101_2 : Nat → Int → List ByteArray → List Dyn → Prop
  | 0, _, _, _ => False
  | n + 1, v8, x0, ds => (if (decide (v8 < (↑(List.length x0) : Int))) = true then ((0 ≤ v8) ∧ (v8 < (↑(List.length x0) : Int)) ∧ (if (g101_0 (List.getD x0 (Int.toNat v8) ByteArray.empty)) = true then (ds = [Dyn.mk (Ty.int .i64) v8]) else ((InR .i64 (v8 + 1)) ∧ (R107c101_2 n (v8 + 1) (x0) ds)))) else (ds = [Dyn.mk (Ty.int .i64) (-1)]))
end
theorem p107c101_0 (x0 : List ByteArray) : Am.runN tab ext107c101 false 19 [] 2000 [] [] [0, 1, 7, 8] [] [] [.code b107c101] (entE 0 0 sig107c101 (x0, (), ())) (entL sig107c101 (x0, (), ())) = some (cutAt b107c101 2, E107c101_2 (0) (x0), L107c101_2 (0) (x0), []) := by kernel_rfl
theorem p107c101_1 (v8 : Int) (x0 : List ByteArray) : runF tab ext107c101 false 19 [] 2000 [] oks107c101 kds107c101 tys107c101 Tryz.f107.results [true, true] (cutAt b107c101 2) (E107c101_2 v8 x0) (L107c101_2 v8 x0) = some ([Dyn.mk (Ty.int .i64) v8], [], [decide (v8 < (↑(List.length x0) : Int)) = true, 0 ≤ v8, v8 < (↑(List.length x0) : Int), True, g101_0 (List.getD x0 (Int.toNat v8) ByteArray.empty) = true]) := by kernel_rfl
theorem p107c101_2 (v8 : Int) (x0 : List ByteArray) : Am.runN tab ext107c101 false 19 [] 2000 [] [] [0, 1, 7, 8] [] [true, false] (cutAt b107c101 2) (E107c101_2 v8 x0) (L107c101_2 v8 x0) = some (cutAt b107c101 2, E107c101_2 (v8 + 1) (x0), L107c101_2 (v8 + 1) (x0), [decide (v8 < (↑(List.length x0) : Int)) = true, 0 ≤ v8, v8 < (↑(List.length x0) : Int), True, g101_0 (List.getD x0 (Int.toNat v8) ByteArray.empty) = false, InR .i64 (v8 + 1)]) := by kernel_rfl
theorem p107c101_3 (v8 : Int) (x0 : List ByteArray) : runF tab ext107c101 false 19 [] 2000 [] oks107c101 kds107c101 tys107c101 Tryz.f107.results [false] (cutAt b107c101 2) (E107c101_2 v8 x0) (L107c101_2 v8 x0) = some ([Dyn.mk (Ty.int .i64) (-1)], [], [decide (v8 < (↑(List.length x0) : Int)) = false]) := by kernel_rfl
theorem snd107c101 : ∀ n, (∀ (x0 : List ByteArray) ds, R107c101 n x0 ds → ∀ K q, AtV Tryz.prog 107 (PostR kds107c101 oks107c101 ds [] [] q K) 19 K q [] [.code b107c101] (entE 0 0 sig107c101 (x0, (), ())) (entL sig107c101 (x0, (), ()))) ∧ (∀ (v8 : Int) (x0 : List ByteArray) ds, R107c101_2 n v8 x0 ds → ∀ K q, AtV Tryz.prog 107 (PostR kds107c101 oks107c101 ds [] [] q K) 19 K q [] (cutAt b107c101 2) (E107c101_2 v8 x0) (L107c101_2 v8 x0)) := by
  intro n
  induction n with
  | zero => exact ⟨fun _ _ h => by simp only [R107c101] at h, fun _ _ _ h => by simp only [R107c101_2] at h⟩
  | succ n ih =>
  obtain ⟨ih, ih2⟩ := ih
  refine ⟨?_, ?_⟩
  · intro x0 ds h K q
    rw [R107c101] at h
    exact AtV.runN tabOk ext107c101Ok mixed (p107c101_0 x0) trivial (ih2 _ _ _ h K q)

  · intro v8 x0 ds h K q
    rw [R107c101_2] at h
    by_cases b0 : (decide (v8 < (↑(List.length x0) : Int))) = true
    · rw [if_pos b0] at h
      obtain ⟨s0, s1, h⟩ := h
      by_cases b1 : (g101_0 (List.getD x0 (Int.toNat v8) ByteArray.empty)) = true
      · rw [if_pos b1] at h
        subst h
        exact AtV.fin Tryz.func107 tabOk ext107c101Ok mixed (p107c101_1 v8 x0) ⟨b0, s0, s1, trivial, b1, trivial⟩
      · rw [if_neg b1] at h
        replace b1 := Bool.eq_false_iff.2 b1
        obtain ⟨s2, h⟩ := h
        exact AtV.runN tabOk ext107c101Ok mixed (p107c101_2 v8 x0) ⟨b0, s0, s1, trivial, b1, s2, trivial⟩ (ih2 _ _ _ h K q)
    · rw [if_neg b0] at h
      replace b0 := Bool.eq_false_iff.2 b0
      subst h
      exact AtV.fin Tryz.func107 tabOk ext107c101Ok mixed (p107c101_3 v8 x0) ⟨b0, trivial⟩



def g107c101_0 (x0 : List (ByteArray)) : Int := idx (x0.findIdx? g101_0)
def P107c101 (x0 : List (ByteArray)) : Prop := True

theorem top107c101 (x0 : List (ByteArray)) (hm : x0.length ≤ maxLen) : R107c101 (x0.length + 1 + 1) x0 [⟨.int .i64, g107c101_0 x0⟩] := by
  rw [R107c101]
  have key := loop_find x0 ByteArray.empty g101_0 [(⟨.int .i64, -1⟩ : Dyn)] (fun k => [⟨.int .i64, k⟩]) (fun n i ds => R107c101_2 n i x0 ds) (fun n => ?_) (fun n i hi hok ds hr => ?_) (fun n i hi hok => ?_)
  · unfold g107c101_0
    cases h : x0.findIdx? g101_0 <;> rw [h] at key <;> exact key
  · rw [R107c101_2, if_neg (by simp)]
  · rw [R107c101_2, if_pos (by simp; omega)]
    simp only [Int.toNat_natCast]
    refine ⟨by omega, by omega, ?_⟩
    rw [if_neg (by rw [hok]; simp)]
    exact ⟨inR_up hm hi, hr⟩
  · rw [R107c101_2, if_pos (by simp; omega)]
    simp only [Int.toNat_natCast]
    refine ⟨by omega, by omega, ?_⟩
    rw [if_pos hok] <;> trivial

def S107c101 : Am.Spec := { sig := sig107c101, pre := fun ⟨x0, _⟩ => P107c101 x0, res := fun ⟨x0, _⟩ => [⟨Ty.int .i64, g107c101_0 x0⟩] }
theorem con107c101 : Contract Tryz.prog 107 S107c101 := contract_of Tryz.func107 hb107c101 (Nat.le_of_ble_eq_true (by kernel_rfl)) (fun ⟨x0, _⟩ h hwf K q =>
  (snd107c101 _).1 x0 _ (top107c101 x0 hwf.1.1) K q)

theorem any107c101 (x0 : List (ByteArray)) : decide (g107c101_0 x0 ≥ 0) = x0.any g101_0 := by
  have := findIdx_any g101_0 x0
  unfold g107c101_0
  cases h : x0.any g101_0 with
  | true => rw [h] at this; simpa using this
  | false => rw [h] at this; simpa using this

end
end Go.Proofs.YthlhnglkechkaaaGreatDoor

/- Function 99 (slices.ContainsFunc[[]string,string]): its runs between cut points. Written by a program of this repo (gen). -/
set_option linter.unusedVariables false
set_option linter.unusedSimpArgs false
set_option maxRecDepth 100000
namespace Go.Proofs.YthlhnglkechkaaaGreatDoor
open Go Go.Am Go.Proofs
noncomputable section
def ext99c101 : Ext := [(107, S107c101), (101, S101)]
theorem call99c101_107 : Callable Tryz.prog 107 := ⟨Tryz.f107, Tryz.func107, by kernel_rfl, by kernel_rfl⟩
theorem call99c101_101 : Callable Tryz.prog 101 := ⟨Tryz.f101, Tryz.func101, by kernel_rfl, by kernel_rfl⟩
theorem ext99c101Ok : ExtOk Tryz.prog ext99c101 := ⟨⟨call99c101_107, con107c101⟩, ⟨call99c101_101, con101⟩, trivial⟩

noncomputable def b99c101 : Code := bodyOf Tryz.f99
theorem hb99c101 : Tryz.f99.body = some b99c101 := by kernel_rfl
def sig99c101 : List AT := [AT.v (Ty.sl Ty.str), AT.fn 101 []]
def tys99c101 : List Ty := [Ty.bool]
def kds99c101 : List RK := []
def oks99c101 : List AT := owns sig99c101
def P99c101 (x0 : List ByteArray) : Prop := True
def g99c101_0 (x0 : List ByteArray) : Bool := decide (g107c101_0 x0 ≥ 0)
theorem p99c101_0 (x0 : List ByteArray) : runF tab ext99c101 false 9 [] 2000 [] oks99c101 kds99c101 tys99c101 Tryz.f99.results [] [.code b99c101] (entE 0 0 sig99c101 (x0, (), ())) (entL sig99c101 (x0, (), ())) = some ([Dyn.mk Ty.bool (decide (g107c101_0 x0 ≥ 0))], [], [True]) := by kernel_rfl
theorem at99c101 (x0 : List ByteArray) (h : P99c101 x0) (K : Ctx) (q : Nat → Value) : AtV Tryz.prog 99 (PostR kds99c101 oks99c101 [⟨Ty.bool, g99c101_0 x0⟩] [] [] q K) 9 K q [] [.code b99c101] (entE 0 0 sig99c101 (x0, (), ())) (entL sig99c101 (x0, (), ())) := by
  unfold P99c101 at h
  unfold g99c101_0
  exact AtV.fin Tryz.func99 tabOk ext99c101Ok mixed (p99c101_0 x0) ⟨trivial, trivial⟩

def S99c101 : Am.Spec := { sig := sig99c101, pre := fun ⟨x0, _⟩ => P99c101 x0, res := fun ⟨x0, _⟩ => [⟨Ty.bool, g99c101_0 x0⟩], kds := kds99c101 }
theorem con99c101 : Contract Tryz.prog 99 S99c101 := contract_of Tryz.func99 hb99c101 (Nat.le_of_ble_eq_true (by kernel_rfl)) (fun ⟨x0, _⟩ h _ K q => at99c101 x0 h K q)


end
end Go.Proofs.YthlhnglkechkaaaGreatDoor

/- Function 92 (impl.isText): its runs between cut points. Written by a program of this repo (gen). -/
set_option linter.unusedVariables false
set_option linter.unusedSimpArgs false
set_option maxRecDepth 100000
namespace Go.Proofs.YthlhnglkechkaaaGreatDoor
open Go Go.Am Go.Proofs
noncomputable section
def ext92 : Ext := [(100, S100), (99, S99c101)]
theorem call92_100 : Callable Tryz.prog 100 := ⟨Tryz.f100, Tryz.func100, by kernel_rfl, by kernel_rfl⟩
theorem call92_99 : Callable Tryz.prog 99 := ⟨Tryz.f99, Tryz.func99, by kernel_rfl, by kernel_rfl⟩
theorem ext92Ok : ExtOk Tryz.prog ext92 := ⟨⟨call92_100, con100⟩, ⟨call92_99, con99c101⟩, trivial⟩

noncomputable def b92 : Code := bodyOf Tryz.f92
theorem hb92 : Tryz.f92.body = some b92 := by kernel_rfl
def sig92 : List AT := [AT.v (Ty.str)]
def tys92 : List Ty := [Ty.bool]
def kds92 : List RK := []
def oks92 : List AT := owns sig92
def P92 (x0 : ByteArray) : Prop := (if (decide ((↑(ByteArray.size x0) : Int) ≤ 40)) = true then ((P100 x0 (ByteArray.mk #[32])) ∧ True) else True)
def g92_0 (x0 : ByteArray) : Bool := (if (decide ((↑(ByteArray.size x0) : Int) ≤ 40)) = true then !g99c101_0 (g100_0 x0 (ByteArray.mk #[32])) else false)
theorem p92_0 (x0 : ByteArray) : runF tab ext92 false 12 [] 2000 [] oks92 kds92 tys92 Tryz.f92.results [true] [.code b92] (entE 0 0 sig92 (x0, ())) (entL sig92 (x0, ())) = some ([Dyn.mk Ty.bool !g99c101_0 (g100_0 x0 (ByteArray.mk #[32]))], [], [decide ((↑(ByteArray.size x0) : Int) ≤ 40) = true, P100 x0 (ByteArray.mk #[32]), True]) := by kernel_rfl
theorem p92_1 (x0 : ByteArray) : runF tab ext92 false 12 [] 2000 [] oks92 kds92 tys92 Tryz.f92.results [false] [.code b92] (entE 0 0 sig92 (x0, ())) (entL sig92 (x0, ())) = some ([Dyn.mk Ty.bool false], [], [decide ((↑(ByteArray.size x0) : Int) ≤ 40) = false]) := by kernel_rfl
theorem at92 (x0 : ByteArray) (h : P92 x0) (K : Ctx) (q : Nat → Value) : AtV Tryz.prog 92 (PostR kds92 oks92 [⟨Ty.bool, g92_0 x0⟩] [] [] q K) 12 K q [] [.code b92] (entE 0 0 sig92 (x0, ())) (entL sig92 (x0, ())) := by
  unfold P92 at h
  unfold g92_0
  by_cases b0 : (decide ((↑(ByteArray.size x0) : Int) ≤ 40)) = true
  · try simp only [if_pos b0] at h ⊢
    obtain ⟨s0, h⟩ := h
    exact AtV.fin Tryz.func92 tabOk ext92Ok mixed (p92_0 x0) ⟨b0, s0, trivial, trivial⟩
  · try simp only [if_neg b0] at h ⊢
    replace b0 := Bool.eq_false_iff.2 b0
    exact AtV.fin Tryz.func92 tabOk ext92Ok mixed (p92_1 x0) ⟨b0, trivial⟩

def S92 : Am.Spec := { sig := sig92, pre := fun ⟨x0, _⟩ => P92 x0, res := fun ⟨x0, _⟩ => [⟨Ty.bool, g92_0 x0⟩], kds := kds92 }
theorem con92 : Contract Tryz.prog 92 S92 := contract_of Tryz.func92 hb92 (Nat.le_of_ble_eq_true (by kernel_rfl)) (fun ⟨x0, _⟩ h _ K q => at92 x0 h K q)


end
end Go.Proofs.YthlhnglkechkaaaGreatDoor

/- Function 93 (impl.isSeal): its runs between cut points. Written by a program of this repo (gen). -/
set_option linter.unusedVariables false
set_option linter.unusedSimpArgs false
set_option maxRecDepth 100000
namespace Go.Proofs.YthlhnglkechkaaaGreatDoor
open Go Go.Am Go.Proofs
noncomputable section
def ext93 : Ext := [(59, S59)]
theorem call93_59 : Callable Tryz.prog 59 := ⟨Tryz.f59, Tryz.func59, by kernel_rfl, by kernel_rfl⟩
theorem ext93Ok : ExtOk Tryz.prog ext93 := ⟨⟨call93_59, con59⟩, trivial⟩

noncomputable def b93 : Code := bodyOf Tryz.f93
theorem hb93 : Tryz.f93.body = some b93 := by kernel_rfl
def sig93 : List AT := [AT.v (Ty.int .i64)]
def tys93 : List Ty := [Ty.bool]
def kds93 : List RK := []
def oks93 : List AT := owns sig93
def P93 (x0 : Int) : Prop := True
def g93_0 (x0 : Int) : Bool := g59_0 x0 0 65535
theorem p93_0 (x0 : Int) : runF tab ext93 false 5 [] 2000 [] oks93 kds93 tys93 Tryz.f93.results [] [.code b93] (entE 0 0 sig93 (x0, ())) (entL sig93 (x0, ())) = some ([Dyn.mk Ty.bool (g59_0 x0 0 65535)], [], [True]) := by kernel_rfl
theorem at93 (x0 : Int) (h : P93 x0) (K : Ctx) (q : Nat → Value) : AtV Tryz.prog 93 (PostR kds93 oks93 [⟨Ty.bool, g93_0 x0⟩] [] [] q K) 5 K q [] [.code b93] (entE 0 0 sig93 (x0, ())) (entL sig93 (x0, ())) := by
  unfold P93 at h
  unfold g93_0
  exact AtV.fin Tryz.func93 tabOk ext93Ok mixed (p93_0 x0) ⟨trivial, trivial⟩

def S93 : Am.Spec := { sig := sig93, pre := fun ⟨x0, _⟩ => P93 x0, res := fun ⟨x0, _⟩ => [⟨Ty.bool, g93_0 x0⟩], kds := kds93 }
theorem con93 : Contract Tryz.prog 93 S93 := contract_of Tryz.func93 hb93 (Nat.le_of_ble_eq_true (by kernel_rfl)) (fun ⟨x0, _⟩ h _ K q => at93 x0 h K q)


end
end Go.Proofs.YthlhnglkechkaaaGreatDoor

/- Function 70 (impl.validLine): its runs between cut points. Written by a program of this repo (gen). -/
set_option linter.unusedVariables false
set_option linter.unusedSimpArgs false
set_option maxRecDepth 100000
namespace Go.Proofs.YthlhnglkechkaaaGreatDoor
open Go Go.Am Go.Proofs
noncomputable section
def ext70 : Ext := [(65, S65), (91, S91), (92, S92), (93, S93)]
theorem call70_65 : Callable Tryz.prog 65 := ⟨Tryz.f65, Tryz.func65, by kernel_rfl, by kernel_rfl⟩
theorem call70_91 : Callable Tryz.prog 91 := ⟨Tryz.f91, Tryz.func91, by kernel_rfl, by kernel_rfl⟩
theorem call70_92 : Callable Tryz.prog 92 := ⟨Tryz.f92, Tryz.func92, by kernel_rfl, by kernel_rfl⟩
theorem call70_93 : Callable Tryz.prog 93 := ⟨Tryz.f93, Tryz.func93, by kernel_rfl, by kernel_rfl⟩
theorem ext70Ok : ExtOk Tryz.prog ext70 := ⟨⟨call70_65, con65⟩, ⟨call70_91, con91⟩, ⟨call70_92, con92⟩, ⟨call70_93, con93⟩, trivial⟩

noncomputable def b70 : Code := bodyOf Tryz.f70
theorem hb70 : Tryz.f70.body = some b70 := by kernel_rfl
def sig70 : List AT := [AT.v (Ty.cons (Ty.int .i64) (Ty.cons (Ty.int .i64) (Ty.cons Ty.str (Ty.cons (Ty.int .i64) Ty.unit))))]
def tys70 : List Ty := [Ty.bool]
def kds70 : List RK := []
def oks70 : List AT := owns sig70
def P70 (x0 : Int × Int × ByteArray × Int × Unit) : Prop := (if (g65_0 x0.1) = true then (if (g91_0 x0.2.1) = true then ((P92 x0.2.2.1) ∧ True) else True) else True)
def g70_0 (x0 : Int × Int × ByteArray × Int × Unit) : Bool := (if (g65_0 x0.1) = true then (if (g91_0 x0.2.1) = true then (if (g92_0 x0.2.2.1) = true then g93_0 x0.2.2.2.1 else false) else false) else false)
theorem p70_0 (x0 : Int × Int × ByteArray × Int × Unit) : runF tab ext70 false 21 [] 2000 [] oks70 kds70 tys70 Tryz.f70.results [true, true, true] [.code b70] (entE 0 0 sig70 (x0, ())) (entL sig70 (x0, ())) = some ([Dyn.mk Ty.bool (g93_0 x0.2.2.2.1)], [], [True, g65_0 x0.1 = true, True, g91_0 x0.2.1 = true, P92 x0.2.2.1, g92_0 x0.2.2.1 = true, True]) := by kernel_rfl
theorem p70_1 (x0 : Int × Int × ByteArray × Int × Unit) : runF tab ext70 false 21 [] 2000 [] oks70 kds70 tys70 Tryz.f70.results [true, true, false] [.code b70] (entE 0 0 sig70 (x0, ())) (entL sig70 (x0, ())) = some ([Dyn.mk Ty.bool false], [], [True, g65_0 x0.1 = true, True, g91_0 x0.2.1 = true, P92 x0.2.2.1, g92_0 x0.2.2.1 = false]) := by kernel_rfl
theorem p70_2 (x0 : Int × Int × ByteArray × Int × Unit) : runF tab ext70 false 21 [] 2000 [] oks70 kds70 tys70 Tryz.f70.results [true, false, false] [.code b70] (entE 0 0 sig70 (x0, ())) (entL sig70 (x0, ())) = some ([Dyn.mk Ty.bool false], [], [True, g65_0 x0.1 = true, True, g91_0 x0.2.1 = false, false = false]) := by kernel_rfl
theorem p70_3 (x0 : Int × Int × ByteArray × Int × Unit) : runF tab ext70 false 21 [] 2000 [] oks70 kds70 tys70 Tryz.f70.results [false, false, false] [.code b70] (entE 0 0 sig70 (x0, ())) (entL sig70 (x0, ())) = some ([Dyn.mk Ty.bool false], [], [True, g65_0 x0.1 = false, false = false, false = false]) := by kernel_rfl
theorem at70 (x0 : Int × Int × ByteArray × Int × Unit) (h : P70 x0) (K : Ctx) (q : Nat → Value) : AtV Tryz.prog 70 (PostR kds70 oks70 [⟨Ty.bool, g70_0 x0⟩] [] [] q K) 21 K q [] [.code b70] (entE 0 0 sig70 (x0, ())) (entL sig70 (x0, ())) := by
  unfold P70 at h
  unfold g70_0
  by_cases b0 : (g65_0 x0.1) = true
  · try simp only [if_pos b0] at h ⊢
    by_cases b1 : (g91_0 x0.2.1) = true
    · try simp only [if_pos b1] at h ⊢
      obtain ⟨s0, h⟩ := h
      by_cases b2 : (g92_0 x0.2.2.1) = true
      · try simp only [if_pos b2] at h ⊢
        exact AtV.fin Tryz.func70 tabOk ext70Ok mixed (p70_0 x0) ⟨trivial, b0, trivial, b1, s0, b2, trivial, trivial⟩
      · try simp only [if_neg b2] at h ⊢
        replace b2 := Bool.eq_false_iff.2 b2
        exact AtV.fin Tryz.func70 tabOk ext70Ok mixed (p70_1 x0) ⟨trivial, b0, trivial, b1, s0, b2, trivial⟩
    · try simp only [if_neg b1] at h ⊢
      replace b1 := Bool.eq_false_iff.2 b1
      exact AtV.fin Tryz.func70 tabOk ext70Ok mixed (p70_2 x0) ⟨trivial, b0, trivial, b1, rfl, trivial⟩
  · try simp only [if_neg b0] at h ⊢
    replace b0 := Bool.eq_false_iff.2 b0
    exact AtV.fin Tryz.func70 tabOk ext70Ok mixed (p70_3 x0) ⟨trivial, b0, rfl, rfl, trivial⟩

def S70 : Am.Spec := { sig := sig70, pre := fun ⟨x0, _⟩ => P70 x0, res := fun ⟨x0, _⟩ => [⟨Ty.bool, g70_0 x0⟩], kds := kds70 }
theorem con70 : Contract Tryz.prog 70 S70 := contract_of Tryz.func70 hb70 (Nat.le_of_ble_eq_true (by kernel_rfl)) (fun ⟨x0, _⟩ h _ K q => at70 x0 h K q)


end
end Go.Proofs.YthlhnglkechkaaaGreatDoor

/- Function 71 (impl.isLater): its runs between cut points. Written by a program of this repo (gen). -/
set_option linter.unusedVariables false
set_option linter.unusedSimpArgs false
set_option maxRecDepth 100000
namespace Go.Proofs.YthlhnglkechkaaaGreatDoor
open Go Go.Am Go.Proofs
noncomputable section
def ext71 : Ext := []
theorem ext71Ok : ExtOk Tryz.prog ext71 := trivial

noncomputable def b71 : Code := bodyOf Tryz.f71
theorem hb71 : Tryz.f71.body = some b71 := by kernel_rfl
def sig71 : List AT := [AT.v (Ty.cons (Ty.int .i64) (Ty.cons (Ty.int .i64) (Ty.cons Ty.str (Ty.cons (Ty.int .i64) Ty.unit)))), AT.v (Ty.cons (Ty.int .i64) (Ty.cons (Ty.int .i64) (Ty.cons Ty.str (Ty.cons (Ty.int .i64) Ty.unit))))]
def tys71 : List Ty := [Ty.bool]
def kds71 : List RK := []
def oks71 : List AT := owns sig71
def P71 (x0 : Int × Int × ByteArray × Int × Unit) (x1 : Int × Int × ByteArray × Int × Unit) : Prop := True
def g71_0 (x0 : Int × Int × ByteArray × Int × Unit) (x1 : Int × Int × ByteArray × Int × Unit) : Bool := (if (decide (x0.1 > x1.1)) = true then true else (if (x0.1 == x1.1) = true then decide (x0.2.1 > x1.2.1) else false))
theorem p71_0 (x0 : Int × Int × ByteArray × Int × Unit) (x1 : Int × Int × ByteArray × Int × Unit) : runF tab ext71 false 24 [] 2000 [] oks71 kds71 tys71 Tryz.f71.results [true] [.code b71] (entE 0 0 sig71 (x0, x1, ())) (entL sig71 (x0, x1, ())) = some ([Dyn.mk Ty.bool true], [], [decide (x0.1 > x1.1) = true]) := by kernel_rfl
theorem p71_1 (x0 : Int × Int × ByteArray × Int × Unit) (x1 : Int × Int × ByteArray × Int × Unit) : runF tab ext71 false 24 [] 2000 [] oks71 kds71 tys71 Tryz.f71.results [false, true] [.code b71] (entE 0 0 sig71 (x0, x1, ())) (entL sig71 (x0, x1, ())) = some ([Dyn.mk Ty.bool (decide (x0.2.1 > x1.2.1))], [], [decide (x0.1 > x1.1) = false, (x0.1 == x1.1) = true]) := by kernel_rfl
theorem p71_2 (x0 : Int × Int × ByteArray × Int × Unit) (x1 : Int × Int × ByteArray × Int × Unit) : runF tab ext71 false 24 [] 2000 [] oks71 kds71 tys71 Tryz.f71.results [false, false] [.code b71] (entE 0 0 sig71 (x0, x1, ())) (entL sig71 (x0, x1, ())) = some ([Dyn.mk Ty.bool false], [], [decide (x0.1 > x1.1) = false, (x0.1 == x1.1) = false]) := by kernel_rfl
theorem at71 (x0 : Int × Int × ByteArray × Int × Unit) (x1 : Int × Int × ByteArray × Int × Unit) (h : P71 x0 x1) (K : Ctx) (q : Nat → Value) : AtV Tryz.prog 71 (PostR kds71 oks71 [⟨Ty.bool, g71_0 x0 x1⟩] [] [] q K) 24 K q [] [.code b71] (entE 0 0 sig71 (x0, x1, ())) (entL sig71 (x0, x1, ())) := by
  unfold P71 at h
  unfold g71_0
  by_cases b0 : (decide (x0.1 > x1.1)) = true
  · try simp only [if_pos b0] at h ⊢
    exact AtV.fin Tryz.func71 tabOk ext71Ok mixed (p71_0 x0 x1) ⟨b0, trivial⟩
  · try simp only [if_neg b0] at h ⊢
    replace b0 := Bool.eq_false_iff.2 b0
    by_cases b1 : (x0.1 == x1.1) = true
    · try simp only [if_pos b1] at h ⊢
      exact AtV.fin Tryz.func71 tabOk ext71Ok mixed (p71_1 x0 x1) ⟨b0, b1, trivial⟩
    · try simp only [if_neg b1] at h ⊢
      replace b1 := Bool.eq_false_iff.2 b1
      exact AtV.fin Tryz.func71 tabOk ext71Ok mixed (p71_2 x0 x1) ⟨b0, b1, trivial⟩

def S71 : Am.Spec := { sig := sig71, pre := fun ⟨x0, x1, _⟩ => P71 x0 x1, res := fun ⟨x0, x1, _⟩ => [⟨Ty.bool, g71_0 x0 x1⟩], kds := kds71 }
theorem con71 : Contract Tryz.prog 71 S71 := contract_of Tryz.func71 hb71 (Nat.le_of_ble_eq_true (by kernel_rfl)) (fun ⟨x0, x1, _⟩ h _ K q => at71 x0 x1 h K q)


end
end Go.Proofs.YthlhnglkechkaaaGreatDoor

/- Function 32 (impl.isLog): its runs between cut points. Written by a program of this repo (gen). -/
set_option linter.unusedVariables false
set_option linter.unusedSimpArgs false
set_option maxRecDepth 100000
namespace Go.Proofs.YthlhnglkechkaaaGreatDoor
open Go Go.Am Go.Proofs
noncomputable section
def ext32 : Ext := [(70, S70), (71, S71)]
theorem call32_70 : Callable Tryz.prog 70 := ⟨Tryz.f70, Tryz.func70, by kernel_rfl, by kernel_rfl⟩
theorem call32_71 : Callable Tryz.prog 71 := ⟨Tryz.f71, Tryz.func71, by kernel_rfl, by kernel_rfl⟩
theorem ext32Ok : ExtOk Tryz.prog ext32 := ⟨⟨call32_70, con70⟩, ⟨call32_71, con71⟩, trivial⟩

noncomputable def b32 : Code := bodyOf Tryz.f32
theorem hb32 : Tryz.f32.body = some b32 := by kernel_rfl
def sig32 : List AT := [AT.v (Ty.sl (Ty.cons (Ty.int .i64) (Ty.cons (Ty.int .i64) (Ty.cons Ty.str (Ty.cons (Ty.int .i64) Ty.unit)))))]
def tys32 : List Ty := [Ty.bool]
def kds32 : List RK := []
def oks32 : List AT := owns sig32
def E32_2 (v7 : Int) (x0 : List TyB2) : Env := [(0, PV.a (Atom.sl (Ty.cons (Ty.int .i64) (Ty.cons (Ty.int .i64) (Ty.cons Ty.str (Ty.cons (Ty.int .i64) Ty.unit)))) x0)), (5, PV.a (Atom.sl (Ty.cons (Ty.int .i64) (Ty.cons (Ty.int .i64) (Ty.cons Ty.str (Ty.cons (Ty.int .i64) Ty.unit)))) x0)), (6, PV.a (Atom.val (Value.int .i64 (↑(List.length x0) : Int)))), (7, PV.a (Atom.val (Value.int .i64 v7)))]
def L32_2 (v7 : Int) (x0 : List TyB2) : Heap := []
mutual
def R32 : Nat → List TyB2 → List Dyn → Prop
  | 0, _, _ => False
  | n + 1, x0, ds => (R32_2 n (0) (x0) ds)
def R32_2 : Nat → Int → List TyB2 → List Dyn → Prop
  | 0, _, _, _ => False
  | n + 1, v7, x0, ds => (if (decide (v7 < (↑(List.length x0) : Int))) = true then ((0 ≤ v7) ∧ (v7 < (↑(List.length x0) : Int)) ∧ ((P70 (List.getD x0 (Int.toNat v7) (0, 0, ByteArray.empty, 0, ()))) ∧ (if (!g70_0 (List.getD x0 (Int.toNat v7) (0, 0, ByteArray.empty, 0, ()))) = true then (ds = [Dyn.mk Ty.bool false]) else (if (decide (v7 > 0)) = true then ((InR .i64 (v7 - 1)) ∧ ((0 ≤ v7 - 1) ∧ (v7 - 1 < (↑(List.length x0) : Int)) ∧ (if (g71_0 (List.getD x0 (Int.toNat (v7 - 1)) (0, 0, ByteArray.empty, 0, ())) (List.getD x0 (Int.toNat v7) (0, 0, ByteArray.empty, 0, ()))) = true then (ds = [Dyn.mk Ty.bool false]) else ((InR .i64 (v7 + 1)) ∧ (R32_2 n (v7 + 1) (x0) ds))))) else ((InR .i64 (v7 + 1)) ∧ (R32_2 n (v7 + 1) (x0) ds)))))) else (ds = [Dyn.mk Ty.bool (decide ((↑(List.length x0) : Int) ≤ 40))]))
end
theorem p32_0 (x0 : List TyB2) : Am.runN tab ext32 false 32 [] 2000 [] [] [0, 5, 6, 7] [] [] [.code b32] (entE 0 0 sig32 (x0, ())) (entL sig32 (x0, ())) = some (cutAt b32 2, E32_2 (0) (x0), L32_2 (0) (x0), []) := by kernel_rfl
theorem p32_1 (v7 : Int) (x0 : List TyB2) : runF tab ext32 false 32 [] 2000 [] oks32 kds32 tys32 Tryz.f32.results [true, true, true] (cutAt b32 2) (E32_2 v7 x0) (L32_2 v7 x0) = some ([Dyn.mk Ty.bool false], [], [decide (v7 < (↑(List.length x0) : Int)) = true, 0 ≤ v7, v7 < (↑(List.length x0) : Int), P70 (List.getD x0 (Int.toNat v7) (0, 0, ByteArray.empty, 0, ())), (!g70_0 (List.getD x0 (Int.toNat v7) (0, 0, ByteArray.empty, 0, ()))) = true, true = true]) := by kernel_rfl
theorem p32_2 (v7 : Int) (x0 : List TyB2) : runF tab ext32 false 32 [] 2000 [] oks32 kds32 tys32 Tryz.f32.results [true, false, true, true] (cutAt b32 2) (E32_2 v7 x0) (L32_2 v7 x0) = some ([Dyn.mk Ty.bool false], [], [decide (v7 < (↑(List.length x0) : Int)) = true, 0 ≤ v7, v7 < (↑(List.length x0) : Int), P70 (List.getD x0 (Int.toNat v7) (0, 0, ByteArray.empty, 0, ())), (!g70_0 (List.getD x0 (Int.toNat v7) (0, 0, ByteArray.empty, 0, ()))) = false, decide (v7 > 0) = true, InR .i64 (v7 - 1), 0 ≤ v7 - 1, v7 - 1 < (↑(List.length x0) : Int), True, g71_0 (List.getD x0 (Int.toNat (v7 - 1)) (0, 0, ByteArray.empty, 0, ())) (List.getD x0 (Int.toNat v7) (0, 0, ByteArray.empty, 0, ())) = true]) := by kernel_rfl
theorem p32_3 (v7 : Int) (x0 : List TyB2) : Am.runN tab ext32 false 32 [] 2000 [] [] [0, 5, 6, 7] [] [true, false, true, false] (cutAt b32 2) (E32_2 v7 x0) (L32_2 v7 x0) = some (cutAt b32 2, E32_2 (v7 + 1) (x0), L32_2 (v7 + 1) (x0), [decide (v7 < (↑(List.length x0) : Int)) = true, 0 ≤ v7, v7 < (↑(List.length x0) : Int), P70 (List.getD x0 (Int.toNat v7) (0, 0, ByteArray.empty, 0, ())), (!g70_0 (List.getD x0 (Int.toNat v7) (0, 0, ByteArray.empty, 0, ()))) = false, decide (v7 > 0) = true, InR .i64 (v7 - 1), 0 ≤ v7 - 1, v7 - 1 < (↑(List.length x0) : Int), True, g71_0 (List.getD x0 (Int.toNat (v7 - 1)) (0, 0, ByteArray.empty, 0, ())) (List.getD x0 (Int.toNat v7) (0, 0, ByteArray.empty, 0, ())) = false, InR .i64 (v7 + 1)]) := by kernel_rfl
theorem p32_4 (v7 : Int) (x0 : List TyB2) : Am.runN tab ext32 false 32 [] 2000 [] [] [0, 5, 6, 7] [] [true, false, false, false] (cutAt b32 2) (E32_2 v7 x0) (L32_2 v7 x0) = some (cutAt b32 2, E32_2 (v7 + 1) (x0), L32_2 (v7 + 1) (x0), [decide (v7 < (↑(List.length x0) : Int)) = true, 0 ≤ v7, v7 < (↑(List.length x0) : Int), P70 (List.getD x0 (Int.toNat v7) (0, 0, ByteArray.empty, 0, ())), (!g70_0 (List.getD x0 (Int.toNat v7) (0, 0, ByteArray.empty, 0, ()))) = false, decide (v7 > 0) = false, false = false, InR .i64 (v7 + 1)]) := by kernel_rfl
theorem p32_5 (v7 : Int) (x0 : List TyB2) : runF tab ext32 false 32 [] 2000 [] oks32 kds32 tys32 Tryz.f32.results [false] (cutAt b32 2) (E32_2 v7 x0) (L32_2 v7 x0) = some ([Dyn.mk Ty.bool (decide ((↑(List.length x0) : Int) ≤ 40))], [], [decide (v7 < (↑(List.length x0) : Int)) = false]) := by kernel_rfl
theorem snd32 : ∀ n, (∀ (x0 : List TyB2) ds, R32 n x0 ds → ∀ K q, AtV Tryz.prog 32 (PostR kds32 oks32 ds [] [] q K) 32 K q [] [.code b32] (entE 0 0 sig32 (x0, ())) (entL sig32 (x0, ()))) ∧ (∀ (v7 : Int) (x0 : List TyB2) ds, R32_2 n v7 x0 ds → ∀ K q, AtV Tryz.prog 32 (PostR kds32 oks32 ds [] [] q K) 32 K q [] (cutAt b32 2) (E32_2 v7 x0) (L32_2 v7 x0)) := by
  intro n
  induction n with
  | zero => exact ⟨fun _ _ h => by simp only [R32] at h, fun _ _ _ h => by simp only [R32_2] at h⟩
  | succ n ih =>
  obtain ⟨ih, ih2⟩ := ih
  refine ⟨?_, ?_⟩
  · intro x0 ds h K q
    rw [R32] at h
    exact AtV.runN tabOk ext32Ok mixed (p32_0 x0) trivial (ih2 _ _ _ h K q)

  · intro v7 x0 ds h K q
    rw [R32_2] at h
    by_cases b0 : (decide (v7 < (↑(List.length x0) : Int))) = true
    · rw [if_pos b0] at h
      obtain ⟨s0, s1, h⟩ := h
      obtain ⟨s2, h⟩ := h
      by_cases b1 : (!g70_0 (List.getD x0 (Int.toNat v7) (0, 0, ByteArray.empty, 0, ()))) = true
      · rw [if_pos b1] at h
        subst h
        exact AtV.fin Tryz.func32 tabOk ext32Ok mixed (p32_1 v7 x0) ⟨b0, s0, s1, s2, b1, rfl, trivial⟩
      · rw [if_neg b1] at h
        replace b1 := Bool.eq_false_iff.2 b1
        by_cases b2 : (decide (v7 > 0)) = true
        · rw [if_pos b2] at h
          obtain ⟨s3, h⟩ := h
          obtain ⟨s4, s5, h⟩ := h
          by_cases b3 : (g71_0 (List.getD x0 (Int.toNat (v7 - 1)) (0, 0, ByteArray.empty, 0, ())) (List.getD x0 (Int.toNat v7) (0, 0, ByteArray.empty, 0, ()))) = true
          · rw [if_pos b3] at h
            subst h
            exact AtV.fin Tryz.func32 tabOk ext32Ok mixed (p32_2 v7 x0) ⟨b0, s0, s1, s2, b1, b2, s3, s4, s5, trivial, b3, trivial⟩
          · rw [if_neg b3] at h
            replace b3 := Bool.eq_false_iff.2 b3
            obtain ⟨s6, h⟩ := h
            exact AtV.runN tabOk ext32Ok mixed (p32_3 v7 x0) ⟨b0, s0, s1, s2, b1, b2, s3, s4, s5, trivial, b3, s6, trivial⟩ (ih2 _ _ _ h K q)
        · rw [if_neg b2] at h
          replace b2 := Bool.eq_false_iff.2 b2
          obtain ⟨s3, h⟩ := h
          exact AtV.runN tabOk ext32Ok mixed (p32_4 v7 x0) ⟨b0, s0, s1, s2, b1, b2, rfl, s3, trivial⟩ (ih2 _ _ _ h K q)
    · rw [if_neg b0] at h
      replace b0 := Bool.eq_false_iff.2 b0
      subst h
      exact AtV.fin Tryz.func32 tabOk ext32Ok mixed (p32_5 v7 x0) ⟨b0, trivial⟩



def ok32 (x0 : List TyB2) (i : Nat) (x : TyB2) : Bool := g70_0 x && (i == 0 || !g71_0 (x0.getD (i - 1) ((0 : Int), (0 : Int), ByteArray.empty, (0 : Int), ())) x)
def g32_0 (x0 : List TyB2) : Bool := allI (ok32 x0) 0 x0 && decide ((x0.length : Int) ≤ 40)
def P32 (x0 : List TyB2) : Prop := True

theorem one32_pre (x : TyB2) : P70 x := by
  unfold P70
  split
  · split
    · refine ⟨?_, trivial⟩
      unfold P92
      split
      · rename_i h
        have h : (x.2.2.1.size : Int) ≤ 40 := by simpa using h
        have h' : x.2.2.1.size ≤ 281474976710656 := by omega
        repeat' (first | apply And.intro | exact trivial | split)
        all_goals (first | omega | decide | trivial)
      · trivial
    · trivial
  · trivial

theorem step32 (n i : Nat) (x0 : List TyB2) (hm : x0.length ≤ maxLen) (hi : i < x0.length) (ds : List Dyn)
    (h : if ok32 x0 i (x0.getD i ((0 : Int), (0 : Int), ByteArray.empty, (0 : Int), ())) = true then R32_2 n ((i : Int) + 1) x0 ds else ds = [⟨.bool, false⟩]) : R32_2 (n + 1) (i : Int) x0 ds := by
  have hu := inR_up hm hi
  have hmx : maxLen ≤ 9223372036854775807 := by decide
  rw [R32_2, if_pos (by simp only [decide_eq_true_eq]; omega)]
  simp only [Int.toNat_natCast]
  refine ⟨by omega, by omega, one32_pre _, ?_⟩
  unfold ok32 at h
  by_cases hv : g70_0 (x0.getD i ((0 : Int), (0 : Int), ByteArray.empty, (0 : Int), ())) = true
  case neg => rw [Bool.eq_false_iff.2 hv] at h; rw [if_pos (by rw [Bool.eq_false_iff.2 hv]; rfl)]; simpa using h
  rw [if_neg (by rw [hv]; simp)]
  rw [hv] at h
  by_cases h0 : (i : Int) > 0
  case neg =>
    rw [if_neg (by simpa using h0)]
    have hi0 : (i == 0) = true := by simp; omega
    rw [hi0] at h
    exact ⟨hu, by simpa using h⟩
  rw [if_pos (by simpa using h0)]
  have hi0 : (i == 0) = false := by simp; omega
  have e : ((i : Int) - 1).toNat = i - 1 := by omega
  have hd : InR .i64 ((i : Int) - 1) := by rw [i64_iff]; omega
  rw [hi0] at h
  simp only [e]
  refine ⟨hd, by omega, by omega, ?_⟩
  by_cases c0 : g71_0 (x0.getD (i - 1) ((0 : Int), (0 : Int), ByteArray.empty, (0 : Int), ())) (x0.getD i ((0 : Int), (0 : Int), ByteArray.empty, (0 : Int), ())) = true
  · rw [if_pos c0]
    rw [c0] at h
    simpa using h
  · rw [if_neg c0]
    rw [Bool.eq_false_iff.2 c0] at h
    exact ⟨hu, by simpa using h⟩

theorem top32 (x0 : List TyB2) (hw : x0.length ≤ maxLen) : R32 (x0.length + 1 + 1) x0 [⟨.bool, g32_0 x0⟩] := by
  rw [R32]
  have key := loop_testI x0 ((0 : Int), (0 : Int), ByteArray.empty, (0 : Int), ()) (ok32 x0) [(⟨.bool, false⟩ : Dyn)] [⟨.bool, decide ((x0.length : Int) ≤ 40)⟩] (fun n i ds => R32_2 n i x0 ds) (fun n => ?_) (fun n i hi hok ds hr => ?_) (fun n i hi hok => ?_)
  · unfold g32_0
    cases h : allI (ok32 x0) 0 x0 with
    | true => rw [if_pos h] at key; simpa using key
    | false => rw [if_neg (by rw [h]; simp)] at key; simpa using key
  · rw [R32_2, if_neg (by simp)]
  · exact step32 n i x0 hw hi ds (by rw [if_pos hok]; exact hr)
  · exact step32 n i x0 hw hi _ (by rw [if_neg (by rw [hok]; simp)])

def S32 : Am.Spec := { sig := sig32, pre := fun ⟨x0, _⟩ => P32 x0, res := fun ⟨x0, _⟩ => [⟨Ty.bool, g32_0 x0⟩] }
theorem con32 : Contract Tryz.prog 32 S32 := contract_of Tryz.func32 hb32 (Nat.le_of_ble_eq_true (by kernel_rfl)) (fun ⟨x0, _⟩ h hwf K q =>
  (snd32 _).1 x0 _ (top32 x0 hwf.1.1) K q)

end
end Go.Proofs.YthlhnglkechkaaaGreatDoor

/- Function 7 (impl.ValidWorks): its runs between cut points. Written by a program of this repo (gen). -/
set_option linter.unusedVariables false
set_option linter.unusedSimpArgs false
set_option maxRecDepth 100000
namespace Go.Proofs.YthlhnglkechkaaaGreatDoor
open Go Go.Am Go.Proofs
noncomputable section
def ext7 : Ext := [(23, S23), (24, S24), (25, S25), (26, S26), (27, S27), (28, S28), (29, S29), (30, S30), (31, S31), (32, S32)]
theorem call7_23 : Callable Tryz.prog 23 := ⟨Tryz.f23, Tryz.func23, by kernel_rfl, by kernel_rfl⟩
theorem call7_24 : Callable Tryz.prog 24 := ⟨Tryz.f24, Tryz.func24, by kernel_rfl, by kernel_rfl⟩
theorem call7_25 : Callable Tryz.prog 25 := ⟨Tryz.f25, Tryz.func25, by kernel_rfl, by kernel_rfl⟩
theorem call7_26 : Callable Tryz.prog 26 := ⟨Tryz.f26, Tryz.func26, by kernel_rfl, by kernel_rfl⟩
theorem call7_27 : Callable Tryz.prog 27 := ⟨Tryz.f27, Tryz.func27, by kernel_rfl, by kernel_rfl⟩
theorem call7_28 : Callable Tryz.prog 28 := ⟨Tryz.f28, Tryz.func28, by kernel_rfl, by kernel_rfl⟩
theorem call7_29 : Callable Tryz.prog 29 := ⟨Tryz.f29, Tryz.func29, by kernel_rfl, by kernel_rfl⟩
theorem call7_30 : Callable Tryz.prog 30 := ⟨Tryz.f30, Tryz.func30, by kernel_rfl, by kernel_rfl⟩
theorem call7_31 : Callable Tryz.prog 31 := ⟨Tryz.f31, Tryz.func31, by kernel_rfl, by kernel_rfl⟩
theorem call7_32 : Callable Tryz.prog 32 := ⟨Tryz.f32, Tryz.func32, by kernel_rfl, by kernel_rfl⟩
theorem ext7Ok : ExtOk Tryz.prog ext7 := ⟨⟨call7_23, con23⟩, ⟨call7_24, con24⟩, ⟨call7_25, con25⟩, ⟨call7_26, con26⟩, ⟨call7_27, con27⟩, ⟨call7_28, con28⟩, ⟨call7_29, con29⟩, ⟨call7_30, con30⟩, ⟨call7_31, con31⟩, ⟨call7_32, con32⟩, trivial⟩

noncomputable def b7 : Code := bodyOf Tryz.f7
theorem hb7 : Tryz.f7.body = some b7 := by kernel_rfl
def sig7 : List AT := [AT.v (Ty.cons (Ty.cons (Ty.sl (Ty.cons (Ty.int .i64) (Ty.cons (Ty.int .i64) Ty.unit))) (Ty.cons (Ty.int .i64) (Ty.cons (Ty.int .i64) Ty.unit))) (Ty.cons (Ty.int .i64) (Ty.cons (Ty.cons (Ty.int .i64) (Ty.cons (Ty.int .i64) Ty.unit)) (Ty.cons (Ty.cons (Ty.int .i64) (Ty.cons (Ty.int .i64) (Ty.cons (Ty.int .i64) (Ty.cons (Ty.int .i64) Ty.unit)))) (Ty.cons (Ty.sl (Ty.cons Ty.str (Ty.cons (Ty.int .i64) (Ty.cons (Ty.int .i64) (Ty.cons (Ty.int .i64) Ty.unit))))) (Ty.cons (Ty.cons (Ty.int .i64) (Ty.cons (Ty.int .i64) (Ty.cons (Ty.int .i64) Ty.unit))) (Ty.cons (Ty.sl (Ty.cons Ty.str (Ty.cons (Ty.int .i64) (Ty.cons (Ty.int .i64) (Ty.cons (Ty.int .i64) (Ty.cons (Ty.int .i64) Ty.unit)))))) (Ty.cons (Ty.int .i64) (Ty.cons (Ty.int .i64) (Ty.cons (Ty.sl (Ty.cons (Ty.int .i64) (Ty.cons (Ty.int .i64) Ty.unit))) (Ty.cons (Ty.int .i64) (Ty.cons (Ty.sl (Ty.cons (Ty.int .i64) (Ty.cons (Ty.int .i64) (Ty.cons Ty.str (Ty.cons (Ty.int .i64) Ty.unit))))) Ty.unit))))))))))))]
def tys7 : List Ty := [Ty.bool]
def kds7 : List RK := []
def oks7 : List AT := owns sig7
def P7 (x0 : TyA0) : Prop := True
def g7_0 (x0 : TyA0) : Bool := (if (g23_0 x0.1) = true then (if (g24_0 x0.2.1) = true then (if (g25_0 x0.2.2.1) = true then (if (g27_0 x0.2.2.2.2.1) = true then (if (g28_0 x0.2.2.2.2.2.1) = true then (if (g26_0 x0.2.2.2.1) = true then (if (g29_0 x0.2.2.2.2.2.2.1 x0.2.2.2.2.2.2.2.1 x0.2.2.2.2.2.2.2.2.1 0 == 0) = true then (if (g30_0 x0.2.2.2.2.2.2.2.2.2.1) = true then (if (g31_0 x0.2.2.2.2.2.2.2.2.2.2.1) = true then g32_0 x0.2.2.2.2.2.2.2.2.2.2.2.1 else false) else false) else false) else false) else (if (g26_0 x0.2.2.2.1) = true then false else false)) else (if (g26_0 x0.2.2.2.1) = true then false else false)) else (if (g27_0 x0.2.2.2.2.1) = true then (if (g28_0 x0.2.2.2.2.2.1) = true then false else false) else false)) else (if (g27_0 x0.2.2.2.2.1) = true then (if (g28_0 x0.2.2.2.2.2.1) = true then false else false) else false)) else (if (g27_0 x0.2.2.2.2.1) = true then (if (g28_0 x0.2.2.2.2.2.1) = true then false else false) else false))
theorem p7_0 (x0 : TyA0) : runF tab ext7 false 60 [] 2000 [] oks7 kds7 tys7 Tryz.f7.results [true, true, true, true, true, true, true, true, true] [.code b7] (entE 0 0 sig7 (x0, ())) (entL sig7 (x0, ())) = some ([Dyn.mk Ty.bool (g32_0 x0.2.2.2.2.2.2.2.2.2.2.2.1)], [], [True, g23_0 x0.1 = true, True, g24_0 x0.2.1 = true, True, g25_0 x0.2.2.1 = true, True, True, g27_0 x0.2.2.2.2.1 = true, True, g28_0 x0.2.2.2.2.2.1 = true, True, g26_0 x0.2.2.2.1 = true, (g29_0 x0.2.2.2.2.2.2.1 x0.2.2.2.2.2.2.2.1 x0.2.2.2.2.2.2.2.2.1 0 == 0) = true, True, g30_0 x0.2.2.2.2.2.2.2.2.2.1 = true, True, g31_0 x0.2.2.2.2.2.2.2.2.2.2.1 = true, True]) := by kernel_rfl
theorem p7_1 (x0 : TyA0) : runF tab ext7 false 60 [] 2000 [] oks7 kds7 tys7 Tryz.f7.results [true, true, true, true, true, true, true, true, false] [.code b7] (entE 0 0 sig7 (x0, ())) (entL sig7 (x0, ())) = some ([Dyn.mk Ty.bool false], [], [True, g23_0 x0.1 = true, True, g24_0 x0.2.1 = true, True, g25_0 x0.2.2.1 = true, True, True, g27_0 x0.2.2.2.2.1 = true, True, g28_0 x0.2.2.2.2.2.1 = true, True, g26_0 x0.2.2.2.1 = true, (g29_0 x0.2.2.2.2.2.2.1 x0.2.2.2.2.2.2.2.1 x0.2.2.2.2.2.2.2.2.1 0 == 0) = true, True, g30_0 x0.2.2.2.2.2.2.2.2.2.1 = true, True, g31_0 x0.2.2.2.2.2.2.2.2.2.2.1 = false]) := by kernel_rfl
theorem p7_2 (x0 : TyA0) : runF tab ext7 false 60 [] 2000 [] oks7 kds7 tys7 Tryz.f7.results [true, true, true, true, true, true, true, false, false] [.code b7] (entE 0 0 sig7 (x0, ())) (entL sig7 (x0, ())) = some ([Dyn.mk Ty.bool false], [], [True, g23_0 x0.1 = true, True, g24_0 x0.2.1 = true, True, g25_0 x0.2.2.1 = true, True, True, g27_0 x0.2.2.2.2.1 = true, True, g28_0 x0.2.2.2.2.2.1 = true, True, g26_0 x0.2.2.2.1 = true, (g29_0 x0.2.2.2.2.2.2.1 x0.2.2.2.2.2.2.2.1 x0.2.2.2.2.2.2.2.2.1 0 == 0) = true, True, g30_0 x0.2.2.2.2.2.2.2.2.2.1 = false, false = false]) := by kernel_rfl
theorem p7_3 (x0 : TyA0) : runF tab ext7 false 60 [] 2000 [] oks7 kds7 tys7 Tryz.f7.results [true, true, true, true, true, true, false, false, false] [.code b7] (entE 0 0 sig7 (x0, ())) (entL sig7 (x0, ())) = some ([Dyn.mk Ty.bool false], [], [True, g23_0 x0.1 = true, True, g24_0 x0.2.1 = true, True, g25_0 x0.2.2.1 = true, True, True, g27_0 x0.2.2.2.2.1 = true, True, g28_0 x0.2.2.2.2.2.1 = true, True, g26_0 x0.2.2.2.1 = true, (g29_0 x0.2.2.2.2.2.2.1 x0.2.2.2.2.2.2.2.1 x0.2.2.2.2.2.2.2.2.1 0 == 0) = false, false = false, false = false]) := by kernel_rfl
theorem p7_4 (x0 : TyA0) : runF tab ext7 false 60 [] 2000 [] oks7 kds7 tys7 Tryz.f7.results [true, true, true, true, true, false, false, false, false] [.code b7] (entE 0 0 sig7 (x0, ())) (entL sig7 (x0, ())) = some ([Dyn.mk Ty.bool false], [], [True, g23_0 x0.1 = true, True, g24_0 x0.2.1 = true, True, g25_0 x0.2.2.1 = true, True, True, g27_0 x0.2.2.2.2.1 = true, True, g28_0 x0.2.2.2.2.2.1 = true, True, g26_0 x0.2.2.2.1 = false, false = false, false = false, false = false]) := by kernel_rfl
theorem p7_5 (x0 : TyA0) : runF tab ext7 false 60 [] 2000 [] oks7 kds7 tys7 Tryz.f7.results [true, true, true, true, false, true, false, false, false] [.code b7] (entE 0 0 sig7 (x0, ())) (entL sig7 (x0, ())) = some ([Dyn.mk Ty.bool false], [], [True, g23_0 x0.1 = true, True, g24_0 x0.2.1 = true, True, g25_0 x0.2.2.1 = true, True, True, g27_0 x0.2.2.2.2.1 = true, True, g28_0 x0.2.2.2.2.2.1 = false, g26_0 x0.2.2.2.1 = true, false = false, false = false, false = false]) := by kernel_rfl
theorem p7_6 (x0 : TyA0) : runF tab ext7 false 60 [] 2000 [] oks7 kds7 tys7 Tryz.f7.results [true, true, true, true, false, false, false, false, false] [.code b7] (entE 0 0 sig7 (x0, ())) (entL sig7 (x0, ())) = some ([Dyn.mk Ty.bool false], [], [True, g23_0 x0.1 = true, True, g24_0 x0.2.1 = true, True, g25_0 x0.2.2.1 = true, True, True, g27_0 x0.2.2.2.2.1 = true, True, g28_0 x0.2.2.2.2.2.1 = false, g26_0 x0.2.2.2.1 = false, false = false, false = false, false = false]) := by kernel_rfl
theorem p7_7 (x0 : TyA0) : runF tab ext7 false 60 [] 2000 [] oks7 kds7 tys7 Tryz.f7.results [true, true, true, false, false, true, false, false, false] [.code b7] (entE 0 0 sig7 (x0, ())) (entL sig7 (x0, ())) = some ([Dyn.mk Ty.bool false], [], [True, g23_0 x0.1 = true, True, g24_0 x0.2.1 = true, True, g25_0 x0.2.2.1 = true, True, True, g27_0 x0.2.2.2.2.1 = false, false = false, g26_0 x0.2.2.2.1 = true, false = false, false = false, false = false]) := by kernel_rfl
theorem p7_8 (x0 : TyA0) : runF tab ext7 false 60 [] 2000 [] oks7 kds7 tys7 Tryz.f7.results [true, true, true, false, false, false, false, false, false] [.code b7] (entE 0 0 sig7 (x0, ())) (entL sig7 (x0, ())) = some ([Dyn.mk Ty.bool false], [], [True, g23_0 x0.1 = true, True, g24_0 x0.2.1 = true, True, g25_0 x0.2.2.1 = true, True, True, g27_0 x0.2.2.2.2.1 = false, false = false, g26_0 x0.2.2.2.1 = false, false = false, false = false, false = false]) := by kernel_rfl
theorem p7_9 (x0 : TyA0) : runF tab ext7 false 60 [] 2000 [] oks7 kds7 tys7 Tryz.f7.results [true, true, false, true, true, false, false, false, false] [.code b7] (entE 0 0 sig7 (x0, ())) (entL sig7 (x0, ())) = some ([Dyn.mk Ty.bool false], [], [True, g23_0 x0.1 = true, True, g24_0 x0.2.1 = true, True, g25_0 x0.2.2.1 = false, True, g27_0 x0.2.2.2.2.1 = true, True, g28_0 x0.2.2.2.2.2.1 = true, True, false = false, false = false, false = false, false = false]) := by kernel_rfl
theorem p7_10 (x0 : TyA0) : runF tab ext7 false 60 [] 2000 [] oks7 kds7 tys7 Tryz.f7.results [true, true, false, true, false, false, false, false, false] [.code b7] (entE 0 0 sig7 (x0, ())) (entL sig7 (x0, ())) = some ([Dyn.mk Ty.bool false], [], [True, g23_0 x0.1 = true, True, g24_0 x0.2.1 = true, True, g25_0 x0.2.2.1 = false, True, g27_0 x0.2.2.2.2.1 = true, True, g28_0 x0.2.2.2.2.2.1 = false, false = false, false = false, false = false, false = false]) := by kernel_rfl
theorem p7_11 (x0 : TyA0) : runF tab ext7 false 60 [] 2000 [] oks7 kds7 tys7 Tryz.f7.results [true, true, false, false, false, false, false, false, false] [.code b7] (entE 0 0 sig7 (x0, ())) (entL sig7 (x0, ())) = some ([Dyn.mk Ty.bool false], [], [True, g23_0 x0.1 = true, True, g24_0 x0.2.1 = true, True, g25_0 x0.2.2.1 = false, True, g27_0 x0.2.2.2.2.1 = false, false = false, false = false, false = false, false = false, false = false]) := by kernel_rfl
theorem p7_12 (x0 : TyA0) : runF tab ext7 false 60 [] 2000 [] oks7 kds7 tys7 Tryz.f7.results [true, false, false, true, true, false, false, false, false] [.code b7] (entE 0 0 sig7 (x0, ())) (entL sig7 (x0, ())) = some ([Dyn.mk Ty.bool false], [], [True, g23_0 x0.1 = true, True, g24_0 x0.2.1 = false, false = false, True, g27_0 x0.2.2.2.2.1 = true, True, g28_0 x0.2.2.2.2.2.1 = true, True, false = false, false = false, false = false, false = false]) := by kernel_rfl
theorem p7_13 (x0 : TyA0) : runF tab ext7 false 60 [] 2000 [] oks7 kds7 tys7 Tryz.f7.results [true, false, false, true, false, false, false, false, false] [.code b7] (entE 0 0 sig7 (x0, ())) (entL sig7 (x0, ())) = some ([Dyn.mk Ty.bool false], [], [True, g23_0 x0.1 = true, True, g24_0 x0.2.1 = false, false = false, True, g27_0 x0.2.2.2.2.1 = true, True, g28_0 x0.2.2.2.2.2.1 = false, false = false, false = false, false = false, false = false]) := by kernel_rfl
theorem p7_14 (x0 : TyA0) : runF tab ext7 false 60 [] 2000 [] oks7 kds7 tys7 Tryz.f7.results [true, false, false, false, false, false, false, false, false] [.code b7] (entE 0 0 sig7 (x0, ())) (entL sig7 (x0, ())) = some ([Dyn.mk Ty.bool false], [], [True, g23_0 x0.1 = true, True, g24_0 x0.2.1 = false, false = false, True, g27_0 x0.2.2.2.2.1 = false, false = false, false = false, false = false, false = false, false = false]) := by kernel_rfl
theorem p7_15 (x0 : TyA0) : runF tab ext7 false 60 [] 2000 [] oks7 kds7 tys7 Tryz.f7.results [false, false, false, true, true, false, false, false, false] [.code b7] (entE 0 0 sig7 (x0, ())) (entL sig7 (x0, ())) = some ([Dyn.mk Ty.bool false], [], [True, g23_0 x0.1 = false, false = false, false = false, True, g27_0 x0.2.2.2.2.1 = true, True, g28_0 x0.2.2.2.2.2.1 = true, True, false = false, false = false, false = false, false = false]) := by kernel_rfl
theorem p7_16 (x0 : TyA0) : runF tab ext7 false 60 [] 2000 [] oks7 kds7 tys7 Tryz.f7.results [false, false, false, true, false, false, false, false, false] [.code b7] (entE 0 0 sig7 (x0, ())) (entL sig7 (x0, ())) = some ([Dyn.mk Ty.bool false], [], [True, g23_0 x0.1 = false, false = false, false = false, True, g27_0 x0.2.2.2.2.1 = true, True, g28_0 x0.2.2.2.2.2.1 = false, false = false, false = false, false = false, false = false]) := by kernel_rfl
theorem p7_17 (x0 : TyA0) : runF tab ext7 false 60 [] 2000 [] oks7 kds7 tys7 Tryz.f7.results [false, false, false, false, false, false, false, false, false] [.code b7] (entE 0 0 sig7 (x0, ())) (entL sig7 (x0, ())) = some ([Dyn.mk Ty.bool false], [], [True, g23_0 x0.1 = false, false = false, false = false, True, g27_0 x0.2.2.2.2.1 = false, false = false, false = false, false = false, false = false, false = false]) := by kernel_rfl
theorem at7 (x0 : TyA0) (h : P7 x0) (K : Ctx) (q : Nat → Value) : AtV Tryz.prog 7 (PostR kds7 oks7 [⟨Ty.bool, g7_0 x0⟩] [] [] q K) 60 K q [] [.code b7] (entE 0 0 sig7 (x0, ())) (entL sig7 (x0, ())) := by
  unfold P7 at h
  unfold g7_0
  by_cases b0 : (g23_0 x0.1) = true
  · try simp only [if_pos b0] at h ⊢
    by_cases b1 : (g24_0 x0.2.1) = true
    · try simp only [if_pos b1] at h ⊢
      by_cases b2 : (g25_0 x0.2.2.1) = true
      · try simp only [if_pos b2] at h ⊢
        by_cases b3 : (g27_0 x0.2.2.2.2.1) = true
        · try simp only [if_pos b3] at h ⊢
          by_cases b4 : (g28_0 x0.2.2.2.2.2.1) = true
          · try simp only [if_pos b4] at h ⊢
            by_cases b5 : (g26_0 x0.2.2.2.1) = true
            · try simp only [if_pos b5] at h ⊢
              by_cases b6 : (g29_0 x0.2.2.2.2.2.2.1 x0.2.2.2.2.2.2.2.1 x0.2.2.2.2.2.2.2.2.1 0 == 0) = true
              · try simp only [if_pos b6] at h ⊢
                by_cases b7 : (g30_0 x0.2.2.2.2.2.2.2.2.2.1) = true
                · try simp only [if_pos b7] at h ⊢
                  by_cases b8 : (g31_0 x0.2.2.2.2.2.2.2.2.2.2.1) = true
                  · try simp only [if_pos b8] at h ⊢
                    exact AtV.fin Tryz.func7 tabOk ext7Ok mixed (p7_0 x0) ⟨trivial, b0, trivial, b1, trivial, b2, trivial, trivial, b3, trivial, b4, trivial, b5, b6, trivial, b7, trivial, b8, trivial, trivial⟩
                  · try simp only [if_neg b8] at h ⊢
                    replace b8 := Bool.eq_false_iff.2 b8
                    exact AtV.fin Tryz.func7 tabOk ext7Ok mixed (p7_1 x0) ⟨trivial, b0, trivial, b1, trivial, b2, trivial, trivial, b3, trivial, b4, trivial, b5, b6, trivial, b7, trivial, b8, trivial⟩
                · try simp only [if_neg b7] at h ⊢
                  replace b7 := Bool.eq_false_iff.2 b7
                  exact AtV.fin Tryz.func7 tabOk ext7Ok mixed (p7_2 x0) ⟨trivial, b0, trivial, b1, trivial, b2, trivial, trivial, b3, trivial, b4, trivial, b5, b6, trivial, b7, rfl, trivial⟩
              · try simp only [if_neg b6] at h ⊢
                replace b6 := Bool.eq_false_iff.2 b6
                exact AtV.fin Tryz.func7 tabOk ext7Ok mixed (p7_3 x0) ⟨trivial, b0, trivial, b1, trivial, b2, trivial, trivial, b3, trivial, b4, trivial, b5, b6, rfl, rfl, trivial⟩
            · try simp only [if_neg b5] at h ⊢
              replace b5 := Bool.eq_false_iff.2 b5
              exact AtV.fin Tryz.func7 tabOk ext7Ok mixed (p7_4 x0) ⟨trivial, b0, trivial, b1, trivial, b2, trivial, trivial, b3, trivial, b4, trivial, b5, rfl, rfl, rfl, trivial⟩
          · try simp only [if_neg b4] at h ⊢
            replace b4 := Bool.eq_false_iff.2 b4
            by_cases b5 : (g26_0 x0.2.2.2.1) = true
            · try simp only [if_pos b5] at h ⊢
              exact AtV.fin Tryz.func7 tabOk ext7Ok mixed (p7_5 x0) ⟨trivial, b0, trivial, b1, trivial, b2, trivial, trivial, b3, trivial, b4, b5, rfl, rfl, rfl, trivial⟩
            · try simp only [if_neg b5] at h ⊢
              replace b5 := Bool.eq_false_iff.2 b5
              exact AtV.fin Tryz.func7 tabOk ext7Ok mixed (p7_6 x0) ⟨trivial, b0, trivial, b1, trivial, b2, trivial, trivial, b3, trivial, b4, b5, rfl, rfl, rfl, trivial⟩
        · try simp only [if_neg b3] at h ⊢
          replace b3 := Bool.eq_false_iff.2 b3
          by_cases b4 : (g26_0 x0.2.2.2.1) = true
          · try simp only [if_pos b4] at h ⊢
            exact AtV.fin Tryz.func7 tabOk ext7Ok mixed (p7_7 x0) ⟨trivial, b0, trivial, b1, trivial, b2, trivial, trivial, b3, rfl, b4, rfl, rfl, rfl, trivial⟩
          · try simp only [if_neg b4] at h ⊢
            replace b4 := Bool.eq_false_iff.2 b4
            exact AtV.fin Tryz.func7 tabOk ext7Ok mixed (p7_8 x0) ⟨trivial, b0, trivial, b1, trivial, b2, trivial, trivial, b3, rfl, b4, rfl, rfl, rfl, trivial⟩
      · try simp only [if_neg b2] at h ⊢
        replace b2 := Bool.eq_false_iff.2 b2
        by_cases b3 : (g27_0 x0.2.2.2.2.1) = true
        · try simp only [if_pos b3] at h ⊢
          by_cases b4 : (g28_0 x0.2.2.2.2.2.1) = true
          · try simp only [if_pos b4] at h ⊢
            exact AtV.fin Tryz.func7 tabOk ext7Ok mixed (p7_9 x0) ⟨trivial, b0, trivial, b1, trivial, b2, trivial, b3, trivial, b4, trivial, rfl, rfl, rfl, rfl, trivial⟩
          · try simp only [if_neg b4] at h ⊢
            replace b4 := Bool.eq_false_iff.2 b4
            exact AtV.fin Tryz.func7 tabOk ext7Ok mixed (p7_10 x0) ⟨trivial, b0, trivial, b1, trivial, b2, trivial, b3, trivial, b4, rfl, rfl, rfl, rfl, trivial⟩
        · try simp only [if_neg b3] at h ⊢
          replace b3 := Bool.eq_false_iff.2 b3
          exact AtV.fin Tryz.func7 tabOk ext7Ok mixed (p7_11 x0) ⟨trivial, b0, trivial, b1, trivial, b2, trivial, b3, rfl, rfl, rfl, rfl, rfl, trivial⟩
    · try simp only [if_neg b1] at h ⊢
      replace b1 := Bool.eq_false_iff.2 b1
      by_cases b2 : (g27_0 x0.2.2.2.2.1) = true
      · try simp only [if_pos b2] at h ⊢
        by_cases b3 : (g28_0 x0.2.2.2.2.2.1) = true
        · try simp only [if_pos b3] at h ⊢
          exact AtV.fin Tryz.func7 tabOk ext7Ok mixed (p7_12 x0) ⟨trivial, b0, trivial, b1, rfl, trivial, b2, trivial, b3, trivial, rfl, rfl, rfl, rfl, trivial⟩
        · try simp only [if_neg b3] at h ⊢
          replace b3 := Bool.eq_false_iff.2 b3
          exact AtV.fin Tryz.func7 tabOk ext7Ok mixed (p7_13 x0) ⟨trivial, b0, trivial, b1, rfl, trivial, b2, trivial, b3, rfl, rfl, rfl, rfl, trivial⟩
      · try simp only [if_neg b2] at h ⊢
        replace b2 := Bool.eq_false_iff.2 b2
        exact AtV.fin Tryz.func7 tabOk ext7Ok mixed (p7_14 x0) ⟨trivial, b0, trivial, b1, rfl, trivial, b2, rfl, rfl, rfl, rfl, rfl, trivial⟩
  · try simp only [if_neg b0] at h ⊢
    replace b0 := Bool.eq_false_iff.2 b0
    by_cases b1 : (g27_0 x0.2.2.2.2.1) = true
    · try simp only [if_pos b1] at h ⊢
      by_cases b2 : (g28_0 x0.2.2.2.2.2.1) = true
      · try simp only [if_pos b2] at h ⊢
        exact AtV.fin Tryz.func7 tabOk ext7Ok mixed (p7_15 x0) ⟨trivial, b0, rfl, rfl, trivial, b1, trivial, b2, trivial, rfl, rfl, rfl, rfl, trivial⟩
      · try simp only [if_neg b2] at h ⊢
        replace b2 := Bool.eq_false_iff.2 b2
        exact AtV.fin Tryz.func7 tabOk ext7Ok mixed (p7_16 x0) ⟨trivial, b0, rfl, rfl, trivial, b1, trivial, b2, rfl, rfl, rfl, rfl, trivial⟩
    · try simp only [if_neg b1] at h ⊢
      replace b1 := Bool.eq_false_iff.2 b1
      exact AtV.fin Tryz.func7 tabOk ext7Ok mixed (p7_17 x0) ⟨trivial, b0, rfl, rfl, trivial, b1, rfl, rfl, rfl, rfl, rfl, trivial⟩

def S7 : Am.Spec := { sig := sig7, pre := fun ⟨x0, _⟩ => P7 x0, res := fun ⟨x0, _⟩ => [⟨Ty.bool, g7_0 x0⟩], kds := kds7 }
theorem con7 : Contract Tryz.prog 7 S7 := contract_of Tryz.func7 hb7 (Nat.le_of_ble_eq_true (by kernel_rfl)) (fun ⟨x0, _⟩ h _ K q => at7 x0 h K q)


end
end Go.Proofs.YthlhnglkechkaaaGreatDoor

/- Function 94 (laws.eqSection): its runs between cut points. Written by a program of this repo (gen). -/
set_option linter.unusedVariables false
set_option linter.unusedSimpArgs false
set_option maxRecDepth 100000
namespace Go.Proofs.YthlhnglkechkaaaGreatDoor
open Go Go.Am Go.Proofs
noncomputable section
def ext94 : Ext := []
theorem ext94Ok : ExtOk Tryz.prog ext94 := trivial

noncomputable def b94 : Code := bodyOf Tryz.f94
theorem hb94 : Tryz.f94.body = some b94 := by kernel_rfl
def sig94 : List AT := [AT.v (Ty.cons (Ty.int .i64) (Ty.cons (Ty.int .i64) Ty.unit)), AT.v (Ty.cons (Ty.int .i64) (Ty.cons (Ty.int .i64) Ty.unit))]
def tys94 : List Ty := [Ty.bool]
def kds94 : List RK := []
def oks94 : List AT := owns sig94
def P94 (x0 : Int × Int × Unit) (x1 : Int × Int × Unit) : Prop := True
def g94_0 (x0 : Int × Int × Unit) (x1 : Int × Int × Unit) : Bool := (if (x0.1 != x1.1) = true then false else (if (x0.2.1 != x1.2.1) = true then false else true))
theorem p94_0 (x0 : Int × Int × Unit) (x1 : Int × Int × Unit) : runF tab ext94 false 15 [] 2000 [] oks94 kds94 tys94 Tryz.f94.results [true] [.code b94] (entE 0 0 sig94 (x0, x1, ())) (entL sig94 (x0, x1, ())) = some ([Dyn.mk Ty.bool false], [], [(x0.1 != x1.1) = true]) := by kernel_rfl
theorem p94_1 (x0 : Int × Int × Unit) (x1 : Int × Int × Unit) : runF tab ext94 false 15 [] 2000 [] oks94 kds94 tys94 Tryz.f94.results [false, true] [.code b94] (entE 0 0 sig94 (x0, x1, ())) (entL sig94 (x0, x1, ())) = some ([Dyn.mk Ty.bool false], [], [(x0.1 != x1.1) = false, (x0.2.1 != x1.2.1) = true]) := by kernel_rfl
theorem p94_2 (x0 : Int × Int × Unit) (x1 : Int × Int × Unit) : runF tab ext94 false 15 [] 2000 [] oks94 kds94 tys94 Tryz.f94.results [false, false] [.code b94] (entE 0 0 sig94 (x0, x1, ())) (entL sig94 (x0, x1, ())) = some ([Dyn.mk Ty.bool true], [], [(x0.1 != x1.1) = false, (x0.2.1 != x1.2.1) = false]) := by kernel_rfl
theorem at94 (x0 : Int × Int × Unit) (x1 : Int × Int × Unit) (h : P94 x0 x1) (K : Ctx) (q : Nat → Value) : AtV Tryz.prog 94 (PostR kds94 oks94 [⟨Ty.bool, g94_0 x0 x1⟩] [] [] q K) 15 K q [] [.code b94] (entE 0 0 sig94 (x0, x1, ())) (entL sig94 (x0, x1, ())) := by
  unfold P94 at h
  unfold g94_0
  by_cases b0 : (x0.1 != x1.1) = true
  · try simp only [if_pos b0] at h ⊢
    exact AtV.fin Tryz.func94 tabOk ext94Ok mixed (p94_0 x0 x1) ⟨b0, trivial⟩
  · try simp only [if_neg b0] at h ⊢
    replace b0 := Bool.eq_false_iff.2 b0
    by_cases b1 : (x0.2.1 != x1.2.1) = true
    · try simp only [if_pos b1] at h ⊢
      exact AtV.fin Tryz.func94 tabOk ext94Ok mixed (p94_1 x0 x1) ⟨b0, b1, trivial⟩
    · try simp only [if_neg b1] at h ⊢
      replace b1 := Bool.eq_false_iff.2 b1
      exact AtV.fin Tryz.func94 tabOk ext94Ok mixed (p94_2 x0 x1) ⟨b0, b1, trivial⟩

def S94 : Am.Spec := { sig := sig94, pre := fun ⟨x0, x1, _⟩ => P94 x0 x1, res := fun ⟨x0, x1, _⟩ => [⟨Ty.bool, g94_0 x0 x1⟩], kds := kds94 }
theorem con94 : Contract Tryz.prog 94 S94 := contract_of Tryz.func94 hb94 (Nat.le_of_ble_eq_true (by kernel_rfl)) (fun ⟨x0, x1, _⟩ h _ K q => at94 x0 x1 h K q)


theorem eqd94 (x y : TyB3) : g94_0 x y = true ↔ x = y := by
  obtain ⟨a, b, u⟩ := x
  obtain ⟨a', b', u'⟩ := y
  unfold g94_0
  simp only [Bool.not_eq_true', bytes_ne, bne_iff_ne, ne_eq, ite_not]
  by_cases h0 : a = a'
  · by_cases h1 : b = b'
    · simp [h0, h1]
    · simp [h0, h1]
  · simp [h0]

end
end Go.Proofs.YthlhnglkechkaaaGreatDoor

/- Function 72 (laws.eqSectionS): its runs between cut points. Written by a program of this repo (gen). -/
set_option linter.unusedVariables false
set_option linter.unusedSimpArgs false
set_option maxRecDepth 100000
namespace Go.Proofs.YthlhnglkechkaaaGreatDoor
open Go Go.Am Go.Proofs
noncomputable section
def ext72 : Ext := [(94, S94)]
theorem call72_94 : Callable Tryz.prog 94 := ⟨Tryz.f94, Tryz.func94, by kernel_rfl, by kernel_rfl⟩
theorem ext72Ok : ExtOk Tryz.prog ext72 := ⟨⟨call72_94, con94⟩, trivial⟩

noncomputable def b72 : Code := bodyOf Tryz.f72
theorem hb72 : Tryz.f72.body = some b72 := by kernel_rfl
def sig72 : List AT := [AT.v (Ty.sl (Ty.cons (Ty.int .i64) (Ty.cons (Ty.int .i64) Ty.unit))), AT.v (Ty.sl (Ty.cons (Ty.int .i64) (Ty.cons (Ty.int .i64) Ty.unit)))]
def tys72 : List Ty := [Ty.bool]
def kds72 : List RK := []
def oks72 : List AT := owns sig72
def E72_4 (v5 : Int) (x0 : List TyB3) (x1 : List TyB3) : Env := [(0, PV.a (Atom.sl (Ty.cons (Ty.int .i64) (Ty.cons (Ty.int .i64) Ty.unit)) x0)), (1, PV.a (Atom.sl (Ty.cons (Ty.int .i64) (Ty.cons (Ty.int .i64) Ty.unit)) x1)), (5, PV.a (Atom.val (Value.int .i64 v5)))]
def L72_4 (v5 : Int) (x0 : List TyB3) (x1 : List TyB3) : Heap := []
mutual
def R72 : Nat → List TyB3 → List TyB3 → List Dyn → Prop
  | 0, _, _, _ => False
  | n + 1, x0, x1, ds => (if ((↑(List.length x0) : Int) != (↑(List.length x1) : Int)) = true then (ds = [Dyn.mk Ty.bool false]) else (R72_4 n (0) (x0) (x1) ds))
def R72_4 : Nat → Int → List TyB3 → List TyB3 → List Dyn → Prop
  | 0, _, _, _, _ => False
  | n + 1, v5, x0, x1, ds => (if (decide (v5 < (↑(List.length x0) : Int))) = true then ((0 ≤ v5) ∧ (v5 < (↑(List.length x0) : Int)) ∧ ((0 ≤ v5) ∧ (v5 < (↑(List.length x1) : Int)) ∧ (if (!g94_0 (List.getD x0 (Int.toNat v5) (0, 0, ())) (List.getD x1 (Int.toNat v5) (0, 0, ()))) = true then (ds = [Dyn.mk Ty.bool false]) else ((InR .i64 (v5 + 1)) ∧ (R72_4 n (v5 + 1) (x0) (x1) ds))))) else (ds = [Dyn.mk Ty.bool true]))
end
theorem p72_0 (x0 : List TyB3) (x1 : List TyB3) : runF tab ext72 false 27 [] 2000 [] oks72 kds72 tys72 Tryz.f72.results [true] [.code b72] (entE 0 0 sig72 (x0, x1, ())) (entL sig72 (x0, x1, ())) = some ([Dyn.mk Ty.bool false], [], [((↑(List.length x0) : Int) != (↑(List.length x1) : Int)) = true]) := by kernel_rfl
theorem p72_1 (x0 : List TyB3) (x1 : List TyB3) : Am.runN tab ext72 false 27 [] 2000 [] [] [0, 1, 5] [] [false] [.code b72] (entE 0 0 sig72 (x0, x1, ())) (entL sig72 (x0, x1, ())) = some (cutAt b72 4, E72_4 (0) (x0) (x1), L72_4 (0) (x0) (x1), [((↑(List.length x0) : Int) != (↑(List.length x1) : Int)) = false]) := by kernel_rfl
theorem p72_2 (v5 : Int) (x0 : List TyB3) (x1 : List TyB3) : runF tab ext72 false 27 [] 2000 [] oks72 kds72 tys72 Tryz.f72.results [true, true] (cutAt b72 4) (E72_4 v5 x0 x1) (L72_4 v5 x0 x1) = some ([Dyn.mk Ty.bool false], [], [decide (v5 < (↑(List.length x0) : Int)) = true, 0 ≤ v5, v5 < (↑(List.length x0) : Int), 0 ≤ v5, v5 < (↑(List.length x1) : Int), True, (!g94_0 (List.getD x0 (Int.toNat v5) (0, 0, ())) (List.getD x1 (Int.toNat v5) (0, 0, ()))) = true]) := by kernel_rfl
theorem p72_3 (v5 : Int) (x0 : List TyB3) (x1 : List TyB3) : Am.runN tab ext72 false 27 [] 2000 [] [] [0, 1, 5] [] [true, false] (cutAt b72 4) (E72_4 v5 x0 x1) (L72_4 v5 x0 x1) = some (cutAt b72 4, E72_4 (v5 + 1) (x0) (x1), L72_4 (v5 + 1) (x0) (x1), [decide (v5 < (↑(List.length x0) : Int)) = true, 0 ≤ v5, v5 < (↑(List.length x0) : Int), 0 ≤ v5, v5 < (↑(List.length x1) : Int), True, (!g94_0 (List.getD x0 (Int.toNat v5) (0, 0, ())) (List.getD x1 (Int.toNat v5) (0, 0, ()))) = false, InR .i64 (v5 + 1)]) := by kernel_rfl
theorem p72_4 (v5 : Int) (x0 : List TyB3) (x1 : List TyB3) : runF tab ext72 false 27 [] 2000 [] oks72 kds72 tys72 Tryz.f72.results [false] (cutAt b72 4) (E72_4 v5 x0 x1) (L72_4 v5 x0 x1) = some ([Dyn.mk Ty.bool true], [], [decide (v5 < (↑(List.length x0) : Int)) = false]) := by kernel_rfl
theorem snd72 : ∀ n, (∀ (x0 : List TyB3) (x1 : List TyB3) ds, R72 n x0 x1 ds → ∀ K q, AtV Tryz.prog 72 (PostR kds72 oks72 ds [] [] q K) 27 K q [] [.code b72] (entE 0 0 sig72 (x0, x1, ())) (entL sig72 (x0, x1, ()))) ∧ (∀ (v5 : Int) (x0 : List TyB3) (x1 : List TyB3) ds, R72_4 n v5 x0 x1 ds → ∀ K q, AtV Tryz.prog 72 (PostR kds72 oks72 ds [] [] q K) 27 K q [] (cutAt b72 4) (E72_4 v5 x0 x1) (L72_4 v5 x0 x1)) := by
  intro n
  induction n with
  | zero => exact ⟨fun _ _ _ h => by simp only [R72] at h, fun _ _ _ _ h => by simp only [R72_4] at h⟩
  | succ n ih =>
  obtain ⟨ih, ih4⟩ := ih
  refine ⟨?_, ?_⟩
  · intro x0 x1 ds h K q
    rw [R72] at h
    by_cases b0 : ((↑(List.length x0) : Int) != (↑(List.length x1) : Int)) = true
    · rw [if_pos b0] at h
      subst h
      exact AtV.fin Tryz.func72 tabOk ext72Ok mixed (p72_0 x0 x1) ⟨b0, trivial⟩
    · rw [if_neg b0] at h
      replace b0 := Bool.eq_false_iff.2 b0
      exact AtV.runN tabOk ext72Ok mixed (p72_1 x0 x1) ⟨b0, trivial⟩ (ih4 _ _ _ _ h K q)

  · intro v5 x0 x1 ds h K q
    rw [R72_4] at h
    by_cases b0 : (decide (v5 < (↑(List.length x0) : Int))) = true
    · rw [if_pos b0] at h
      obtain ⟨s0, s1, h⟩ := h
      obtain ⟨s2, s3, h⟩ := h
      by_cases b1 : (!g94_0 (List.getD x0 (Int.toNat v5) (0, 0, ())) (List.getD x1 (Int.toNat v5) (0, 0, ()))) = true
      · rw [if_pos b1] at h
        subst h
        exact AtV.fin Tryz.func72 tabOk ext72Ok mixed (p72_2 v5 x0 x1) ⟨b0, s0, s1, s2, s3, trivial, b1, trivial⟩
      · rw [if_neg b1] at h
        replace b1 := Bool.eq_false_iff.2 b1
        obtain ⟨s4, h⟩ := h
        exact AtV.runN tabOk ext72Ok mixed (p72_3 v5 x0 x1) ⟨b0, s0, s1, s2, s3, trivial, b1, s4, trivial⟩ (ih4 _ _ _ _ h K q)
    · rw [if_neg b0] at h
      replace b0 := Bool.eq_false_iff.2 b0
      subst h
      exact AtV.fin Tryz.func72 tabOk ext72Ok mixed (p72_4 v5 x0 x1) ⟨b0, trivial⟩



theorem eq72 (x0 x1 : List TyB3) (hl : x0.length = x1.length) (hm : x0.length ≤ maxLen) : ∀ k i : Nat, i + k = x0.length → R72_4 (k + 1) (i : Int) x0 x1 [⟨.bool, decide (x0.drop i = x1.drop i)⟩] := by
  intro k
  induction k with
  | zero =>
    intro i hi
    have h1 : ¬ (i : Int) < (x0.length : Int) := by omega
    rw [R72_4, if_neg (by simpa using h1), drop_end x0 i (by omega), drop_end x1 i (by omega)]
    simp
  | succ k ih =>
    intro i hi
    have h1 : (i : Int) < (x0.length : Int) := by omega
    rw [R72_4, if_pos (by simpa using h1)]
    refine ⟨by omega, h1, by omega, by omega, ?_⟩
    simp only [Int.toNat_natCast]
    rw [drop_get x0 i ((0 : Int), (0 : Int), ()) (by omega), drop_get x1 i ((0 : Int), (0 : Int), ()) (by omega)]
    by_cases he : x0.getD i ((0 : Int), (0 : Int), ()) = x1.getD i ((0 : Int), (0 : Int), ())
    · have hd := (eqd94 _ _).2 he
      rw [if_neg (by rw [hd]; simp)]
      refine ⟨inR_up hm (by omega), ?_⟩
      have := ih (i + 1) (by omega)
      simp only [he, List.cons.injEq, true_and]
      exact this
    · have hd : g94_0 (x0.getD i ((0 : Int), (0 : Int), ())) (x1.getD i ((0 : Int), (0 : Int), ())) = false :=
        Bool.eq_false_iff.2 fun h => he ((eqd94 _ _).1 h)
      rw [if_pos (by rw [hd]; rfl)]
      simp only [he, List.cons.injEq, false_and, decide_false]

def g72_0 (x0 x1 : List TyB3) : Bool := decide (x0 = x1)
def P72 (x0 x1 : List TyB3) : Prop := True
def S72 : Am.Spec := { sig := sig72, pre := fun ⟨x0, x1, _⟩ => P72 x0 x1, res := fun ⟨x0, x1, _⟩ => [⟨Ty.bool, g72_0 x0 x1⟩] }
theorem con72 : Contract Tryz.prog 72 S72 := contract_of Tryz.func72 hb72 (Nat.le_of_ble_eq_true (by kernel_rfl)) (fun ⟨x0, x1, _⟩ h hwf K q => by
  refine (snd72 (x0.length + 2)).1 x0 x1 _ ?_ K q
  show R72 (x0.length + 1 + 1) x0 x1 [⟨Ty.bool, decide (x0 = x1)⟩]
  rw [R72]
  by_cases hl : x0.length = x1.length
  · rw [if_neg (by simp [hl])]
    have := eq72 x0 x1 hl hwf.1.1 x0.length 0 (by omega)
    simpa using this
  · rw [if_pos (by simp; omega)]
    have : x0 ≠ x1 := fun h => hl (by rw [h])
    simp [this])

end
end Go.Proofs.YthlhnglkechkaaaGreatDoor

/- Function 33 (laws.eqTrack): its runs between cut points. Written by a program of this repo (gen). -/
set_option linter.unusedVariables false
set_option linter.unusedSimpArgs false
set_option maxRecDepth 100000
namespace Go.Proofs.YthlhnglkechkaaaGreatDoor
open Go Go.Am Go.Proofs
noncomputable section
def ext33 : Ext := [(72, S72)]
theorem call33_72 : Callable Tryz.prog 72 := ⟨Tryz.f72, Tryz.func72, by kernel_rfl, by kernel_rfl⟩
theorem ext33Ok : ExtOk Tryz.prog ext33 := ⟨⟨call33_72, con72⟩, trivial⟩

noncomputable def b33 : Code := bodyOf Tryz.f33
theorem hb33 : Tryz.f33.body = some b33 := by kernel_rfl
def sig33 : List AT := [AT.v (Ty.cons (Ty.sl (Ty.cons (Ty.int .i64) (Ty.cons (Ty.int .i64) Ty.unit))) (Ty.cons (Ty.int .i64) (Ty.cons (Ty.int .i64) Ty.unit))), AT.v (Ty.cons (Ty.sl (Ty.cons (Ty.int .i64) (Ty.cons (Ty.int .i64) Ty.unit))) (Ty.cons (Ty.int .i64) (Ty.cons (Ty.int .i64) Ty.unit)))]
def tys33 : List Ty := [Ty.bool]
def kds33 : List RK := []
def oks33 : List AT := owns sig33
def P33 (x0 : List TyB3 × Int × Int × Unit) (x1 : List TyB3 × Int × Int × Unit) : Prop := True
def g33_0 (x0 : List TyB3 × Int × Int × Unit) (x1 : List TyB3 × Int × Int × Unit) : Bool := (if (!g72_0 x0.1 x1.1) = true then false else (if (x0.2.1 != x1.2.1) = true then false else (if (x0.2.2.1 != x1.2.2.1) = true then false else true)))
theorem p33_0 (x0 : List TyB3 × Int × Int × Unit) (x1 : List TyB3 × Int × Int × Unit) : runF tab ext33 false 21 [] 2000 [] oks33 kds33 tys33 Tryz.f33.results [true] [.code b33] (entE 0 0 sig33 (x0, x1, ())) (entL sig33 (x0, x1, ())) = some ([Dyn.mk Ty.bool false], [], [True, (!g72_0 x0.1 x1.1) = true]) := by kernel_rfl
theorem p33_1 (x0 : List TyB3 × Int × Int × Unit) (x1 : List TyB3 × Int × Int × Unit) : runF tab ext33 false 21 [] 2000 [] oks33 kds33 tys33 Tryz.f33.results [false, true] [.code b33] (entE 0 0 sig33 (x0, x1, ())) (entL sig33 (x0, x1, ())) = some ([Dyn.mk Ty.bool false], [], [True, (!g72_0 x0.1 x1.1) = false, (x0.2.1 != x1.2.1) = true]) := by kernel_rfl
theorem p33_2 (x0 : List TyB3 × Int × Int × Unit) (x1 : List TyB3 × Int × Int × Unit) : runF tab ext33 false 21 [] 2000 [] oks33 kds33 tys33 Tryz.f33.results [false, false, true] [.code b33] (entE 0 0 sig33 (x0, x1, ())) (entL sig33 (x0, x1, ())) = some ([Dyn.mk Ty.bool false], [], [True, (!g72_0 x0.1 x1.1) = false, (x0.2.1 != x1.2.1) = false, (x0.2.2.1 != x1.2.2.1) = true]) := by kernel_rfl
theorem p33_3 (x0 : List TyB3 × Int × Int × Unit) (x1 : List TyB3 × Int × Int × Unit) : runF tab ext33 false 21 [] 2000 [] oks33 kds33 tys33 Tryz.f33.results [false, false, false] [.code b33] (entE 0 0 sig33 (x0, x1, ())) (entL sig33 (x0, x1, ())) = some ([Dyn.mk Ty.bool true], [], [True, (!g72_0 x0.1 x1.1) = false, (x0.2.1 != x1.2.1) = false, (x0.2.2.1 != x1.2.2.1) = false]) := by kernel_rfl
theorem at33 (x0 : List TyB3 × Int × Int × Unit) (x1 : List TyB3 × Int × Int × Unit) (h : P33 x0 x1) (K : Ctx) (q : Nat → Value) : AtV Tryz.prog 33 (PostR kds33 oks33 [⟨Ty.bool, g33_0 x0 x1⟩] [] [] q K) 21 K q [] [.code b33] (entE 0 0 sig33 (x0, x1, ())) (entL sig33 (x0, x1, ())) := by
  unfold P33 at h
  unfold g33_0
  by_cases b0 : (!g72_0 x0.1 x1.1) = true
  · try simp only [if_pos b0] at h ⊢
    exact AtV.fin Tryz.func33 tabOk ext33Ok mixed (p33_0 x0 x1) ⟨trivial, b0, trivial⟩
  · try simp only [if_neg b0] at h ⊢
    replace b0 := Bool.eq_false_iff.2 b0
    by_cases b1 : (x0.2.1 != x1.2.1) = true
    · try simp only [if_pos b1] at h ⊢
      exact AtV.fin Tryz.func33 tabOk ext33Ok mixed (p33_1 x0 x1) ⟨trivial, b0, b1, trivial⟩
    · try simp only [if_neg b1] at h ⊢
      replace b1 := Bool.eq_false_iff.2 b1
      by_cases b2 : (x0.2.2.1 != x1.2.2.1) = true
      · try simp only [if_pos b2] at h ⊢
        exact AtV.fin Tryz.func33 tabOk ext33Ok mixed (p33_2 x0 x1) ⟨trivial, b0, b1, b2, trivial⟩
      · try simp only [if_neg b2] at h ⊢
        replace b2 := Bool.eq_false_iff.2 b2
        exact AtV.fin Tryz.func33 tabOk ext33Ok mixed (p33_3 x0 x1) ⟨trivial, b0, b1, b2, trivial⟩

def S33 : Am.Spec := { sig := sig33, pre := fun ⟨x0, x1, _⟩ => P33 x0 x1, res := fun ⟨x0, x1, _⟩ => [⟨Ty.bool, g33_0 x0 x1⟩], kds := kds33 }
theorem con33 : Contract Tryz.prog 33 S33 := contract_of Tryz.func33 hb33 (Nat.le_of_ble_eq_true (by kernel_rfl)) (fun ⟨x0, x1, _⟩ h _ K q => at33 x0 x1 h K q)


end
end Go.Proofs.YthlhnglkechkaaaGreatDoor

/- Function 34 (laws.eqBrake): its runs between cut points. Written by a program of this repo (gen). -/
set_option linter.unusedVariables false
set_option linter.unusedSimpArgs false
set_option maxRecDepth 100000
namespace Go.Proofs.YthlhnglkechkaaaGreatDoor
open Go Go.Am Go.Proofs
noncomputable section
def ext34 : Ext := []
theorem ext34Ok : ExtOk Tryz.prog ext34 := trivial

noncomputable def b34 : Code := bodyOf Tryz.f34
theorem hb34 : Tryz.f34.body = some b34 := by kernel_rfl
def sig34 : List AT := [AT.v (Ty.cons (Ty.int .i64) (Ty.cons (Ty.int .i64) Ty.unit)), AT.v (Ty.cons (Ty.int .i64) (Ty.cons (Ty.int .i64) Ty.unit))]
def tys34 : List Ty := [Ty.bool]
def kds34 : List RK := []
def oks34 : List AT := owns sig34
def P34 (x0 : Int × Int × Unit) (x1 : Int × Int × Unit) : Prop := True
def g34_0 (x0 : Int × Int × Unit) (x1 : Int × Int × Unit) : Bool := (if (x0.1 != x1.1) = true then false else (if (x0.2.1 != x1.2.1) = true then false else true))
theorem p34_0 (x0 : Int × Int × Unit) (x1 : Int × Int × Unit) : runF tab ext34 false 15 [] 2000 [] oks34 kds34 tys34 Tryz.f34.results [true] [.code b34] (entE 0 0 sig34 (x0, x1, ())) (entL sig34 (x0, x1, ())) = some ([Dyn.mk Ty.bool false], [], [(x0.1 != x1.1) = true]) := by kernel_rfl
theorem p34_1 (x0 : Int × Int × Unit) (x1 : Int × Int × Unit) : runF tab ext34 false 15 [] 2000 [] oks34 kds34 tys34 Tryz.f34.results [false, true] [.code b34] (entE 0 0 sig34 (x0, x1, ())) (entL sig34 (x0, x1, ())) = some ([Dyn.mk Ty.bool false], [], [(x0.1 != x1.1) = false, (x0.2.1 != x1.2.1) = true]) := by kernel_rfl
theorem p34_2 (x0 : Int × Int × Unit) (x1 : Int × Int × Unit) : runF tab ext34 false 15 [] 2000 [] oks34 kds34 tys34 Tryz.f34.results [false, false] [.code b34] (entE 0 0 sig34 (x0, x1, ())) (entL sig34 (x0, x1, ())) = some ([Dyn.mk Ty.bool true], [], [(x0.1 != x1.1) = false, (x0.2.1 != x1.2.1) = false]) := by kernel_rfl
theorem at34 (x0 : Int × Int × Unit) (x1 : Int × Int × Unit) (h : P34 x0 x1) (K : Ctx) (q : Nat → Value) : AtV Tryz.prog 34 (PostR kds34 oks34 [⟨Ty.bool, g34_0 x0 x1⟩] [] [] q K) 15 K q [] [.code b34] (entE 0 0 sig34 (x0, x1, ())) (entL sig34 (x0, x1, ())) := by
  unfold P34 at h
  unfold g34_0
  by_cases b0 : (x0.1 != x1.1) = true
  · try simp only [if_pos b0] at h ⊢
    exact AtV.fin Tryz.func34 tabOk ext34Ok mixed (p34_0 x0 x1) ⟨b0, trivial⟩
  · try simp only [if_neg b0] at h ⊢
    replace b0 := Bool.eq_false_iff.2 b0
    by_cases b1 : (x0.2.1 != x1.2.1) = true
    · try simp only [if_pos b1] at h ⊢
      exact AtV.fin Tryz.func34 tabOk ext34Ok mixed (p34_1 x0 x1) ⟨b0, b1, trivial⟩
    · try simp only [if_neg b1] at h ⊢
      replace b1 := Bool.eq_false_iff.2 b1
      exact AtV.fin Tryz.func34 tabOk ext34Ok mixed (p34_2 x0 x1) ⟨b0, b1, trivial⟩

def S34 : Am.Spec := { sig := sig34, pre := fun ⟨x0, x1, _⟩ => P34 x0 x1, res := fun ⟨x0, x1, _⟩ => [⟨Ty.bool, g34_0 x0 x1⟩], kds := kds34 }
theorem con34 : Contract Tryz.prog 34 S34 := contract_of Tryz.func34 hb34 (Nat.le_of_ble_eq_true (by kernel_rfl)) (fun ⟨x0, x1, _⟩ h _ K q => at34 x0 x1 h K q)


end
end Go.Proofs.YthlhnglkechkaaaGreatDoor

/- Function 35 (laws.eqProfile): its runs between cut points. Written by a program of this repo (gen). -/
set_option linter.unusedVariables false
set_option linter.unusedSimpArgs false
set_option maxRecDepth 100000
namespace Go.Proofs.YthlhnglkechkaaaGreatDoor
open Go Go.Am Go.Proofs
noncomputable section
def ext35 : Ext := []
theorem ext35Ok : ExtOk Tryz.prog ext35 := trivial

noncomputable def b35 : Code := bodyOf Tryz.f35
theorem hb35 : Tryz.f35.body = some b35 := by kernel_rfl
def sig35 : List AT := [AT.v (Ty.cons (Ty.int .i64) (Ty.cons (Ty.int .i64) (Ty.cons (Ty.int .i64) (Ty.cons (Ty.int .i64) Ty.unit)))), AT.v (Ty.cons (Ty.int .i64) (Ty.cons (Ty.int .i64) (Ty.cons (Ty.int .i64) (Ty.cons (Ty.int .i64) Ty.unit))))]
def tys35 : List Ty := [Ty.bool]
def kds35 : List RK := []
def oks35 : List AT := owns sig35
def P35 (x0 : Int × Int × Int × Int × Unit) (x1 : Int × Int × Int × Int × Unit) : Prop := True
def g35_0 (x0 : Int × Int × Int × Int × Unit) (x1 : Int × Int × Int × Int × Unit) : Bool := (if (x0.1 != x1.1) = true then false else (if (x0.2.1 != x1.2.1) = true then false else (if (x0.2.2.1 != x1.2.2.1) = true then false else (if (x0.2.2.2.1 != x1.2.2.2.1) = true then false else true))))
theorem p35_0 (x0 : Int × Int × Int × Int × Unit) (x1 : Int × Int × Int × Int × Unit) : runF tab ext35 false 25 [] 2000 [] oks35 kds35 tys35 Tryz.f35.results [true] [.code b35] (entE 0 0 sig35 (x0, x1, ())) (entL sig35 (x0, x1, ())) = some ([Dyn.mk Ty.bool false], [], [(x0.1 != x1.1) = true]) := by kernel_rfl
theorem p35_1 (x0 : Int × Int × Int × Int × Unit) (x1 : Int × Int × Int × Int × Unit) : runF tab ext35 false 25 [] 2000 [] oks35 kds35 tys35 Tryz.f35.results [false, true] [.code b35] (entE 0 0 sig35 (x0, x1, ())) (entL sig35 (x0, x1, ())) = some ([Dyn.mk Ty.bool false], [], [(x0.1 != x1.1) = false, (x0.2.1 != x1.2.1) = true]) := by kernel_rfl
theorem p35_2 (x0 : Int × Int × Int × Int × Unit) (x1 : Int × Int × Int × Int × Unit) : runF tab ext35 false 25 [] 2000 [] oks35 kds35 tys35 Tryz.f35.results [false, false, true] [.code b35] (entE 0 0 sig35 (x0, x1, ())) (entL sig35 (x0, x1, ())) = some ([Dyn.mk Ty.bool false], [], [(x0.1 != x1.1) = false, (x0.2.1 != x1.2.1) = false, (x0.2.2.1 != x1.2.2.1) = true]) := by kernel_rfl
theorem p35_3 (x0 : Int × Int × Int × Int × Unit) (x1 : Int × Int × Int × Int × Unit) : runF tab ext35 false 25 [] 2000 [] oks35 kds35 tys35 Tryz.f35.results [false, false, false, true] [.code b35] (entE 0 0 sig35 (x0, x1, ())) (entL sig35 (x0, x1, ())) = some ([Dyn.mk Ty.bool false], [], [(x0.1 != x1.1) = false, (x0.2.1 != x1.2.1) = false, (x0.2.2.1 != x1.2.2.1) = false, (x0.2.2.2.1 != x1.2.2.2.1) = true]) := by kernel_rfl
theorem p35_4 (x0 : Int × Int × Int × Int × Unit) (x1 : Int × Int × Int × Int × Unit) : runF tab ext35 false 25 [] 2000 [] oks35 kds35 tys35 Tryz.f35.results [false, false, false, false] [.code b35] (entE 0 0 sig35 (x0, x1, ())) (entL sig35 (x0, x1, ())) = some ([Dyn.mk Ty.bool true], [], [(x0.1 != x1.1) = false, (x0.2.1 != x1.2.1) = false, (x0.2.2.1 != x1.2.2.1) = false, (x0.2.2.2.1 != x1.2.2.2.1) = false]) := by kernel_rfl
theorem at35 (x0 : Int × Int × Int × Int × Unit) (x1 : Int × Int × Int × Int × Unit) (h : P35 x0 x1) (K : Ctx) (q : Nat → Value) : AtV Tryz.prog 35 (PostR kds35 oks35 [⟨Ty.bool, g35_0 x0 x1⟩] [] [] q K) 25 K q [] [.code b35] (entE 0 0 sig35 (x0, x1, ())) (entL sig35 (x0, x1, ())) := by
  unfold P35 at h
  unfold g35_0
  by_cases b0 : (x0.1 != x1.1) = true
  · try simp only [if_pos b0] at h ⊢
    exact AtV.fin Tryz.func35 tabOk ext35Ok mixed (p35_0 x0 x1) ⟨b0, trivial⟩
  · try simp only [if_neg b0] at h ⊢
    replace b0 := Bool.eq_false_iff.2 b0
    by_cases b1 : (x0.2.1 != x1.2.1) = true
    · try simp only [if_pos b1] at h ⊢
      exact AtV.fin Tryz.func35 tabOk ext35Ok mixed (p35_1 x0 x1) ⟨b0, b1, trivial⟩
    · try simp only [if_neg b1] at h ⊢
      replace b1 := Bool.eq_false_iff.2 b1
      by_cases b2 : (x0.2.2.1 != x1.2.2.1) = true
      · try simp only [if_pos b2] at h ⊢
        exact AtV.fin Tryz.func35 tabOk ext35Ok mixed (p35_2 x0 x1) ⟨b0, b1, b2, trivial⟩
      · try simp only [if_neg b2] at h ⊢
        replace b2 := Bool.eq_false_iff.2 b2
        by_cases b3 : (x0.2.2.2.1 != x1.2.2.2.1) = true
        · try simp only [if_pos b3] at h ⊢
          exact AtV.fin Tryz.func35 tabOk ext35Ok mixed (p35_3 x0 x1) ⟨b0, b1, b2, b3, trivial⟩
        · try simp only [if_neg b3] at h ⊢
          replace b3 := Bool.eq_false_iff.2 b3
          exact AtV.fin Tryz.func35 tabOk ext35Ok mixed (p35_4 x0 x1) ⟨b0, b1, b2, b3, trivial⟩

def S35 : Am.Spec := { sig := sig35, pre := fun ⟨x0, x1, _⟩ => P35 x0 x1, res := fun ⟨x0, x1, _⟩ => [⟨Ty.bool, g35_0 x0 x1⟩], kds := kds35 }
theorem con35 : Contract Tryz.prog 35 S35 := contract_of Tryz.func35 hb35 (Nat.le_of_ble_eq_true (by kernel_rfl)) (fun ⟨x0, x1, _⟩ h _ K q => at35 x0 x1 h K q)


end
end Go.Proofs.YthlhnglkechkaaaGreatDoor

/- Function 73 (laws.eqGroup): its runs between cut points. Written by a program of this repo (gen). -/
set_option linter.unusedVariables false
set_option linter.unusedSimpArgs false
set_option maxRecDepth 100000
namespace Go.Proofs.YthlhnglkechkaaaGreatDoor
open Go Go.Am Go.Proofs
noncomputable section
def ext73 : Ext := []
theorem ext73Ok : ExtOk Tryz.prog ext73 := trivial

noncomputable def b73 : Code := bodyOf Tryz.f73
theorem hb73 : Tryz.f73.body = some b73 := by kernel_rfl
def sig73 : List AT := [AT.v (Ty.cons Ty.str (Ty.cons (Ty.int .i64) (Ty.cons (Ty.int .i64) (Ty.cons (Ty.int .i64) Ty.unit)))), AT.v (Ty.cons Ty.str (Ty.cons (Ty.int .i64) (Ty.cons (Ty.int .i64) (Ty.cons (Ty.int .i64) Ty.unit))))]
def tys73 : List Ty := [Ty.bool]
def kds73 : List RK := []
def oks73 : List AT := owns sig73
def P73 (x0 : ByteArray × Int × Int × Int × Unit) (x1 : ByteArray × Int × Int × Int × Unit) : Prop := True
def g73_0 (x0 : ByteArray × Int × Int × Int × Unit) (x1 : ByteArray × Int × Int × Int × Unit) : Bool := (if (!ByteArray.toList x0.1 == ByteArray.toList x1.1) = true then false else (if (x0.2.1 != x1.2.1) = true then false else (if (x0.2.2.1 != x1.2.2.1) = true then false else (if (x0.2.2.2.1 != x1.2.2.2.1) = true then false else true))))
theorem p73_0 (x0 : ByteArray × Int × Int × Int × Unit) (x1 : ByteArray × Int × Int × Int × Unit) : runF tab ext73 false 25 [] 2000 [] oks73 kds73 tys73 Tryz.f73.results [true] [.code b73] (entE 0 0 sig73 (x0, x1, ())) (entL sig73 (x0, x1, ())) = some ([Dyn.mk Ty.bool false], [], [(!ByteArray.toList x0.1 == ByteArray.toList x1.1) = true]) := by kernel_rfl
theorem p73_1 (x0 : ByteArray × Int × Int × Int × Unit) (x1 : ByteArray × Int × Int × Int × Unit) : runF tab ext73 false 25 [] 2000 [] oks73 kds73 tys73 Tryz.f73.results [false, true] [.code b73] (entE 0 0 sig73 (x0, x1, ())) (entL sig73 (x0, x1, ())) = some ([Dyn.mk Ty.bool false], [], [(!ByteArray.toList x0.1 == ByteArray.toList x1.1) = false, (x0.2.1 != x1.2.1) = true]) := by kernel_rfl
theorem p73_2 (x0 : ByteArray × Int × Int × Int × Unit) (x1 : ByteArray × Int × Int × Int × Unit) : runF tab ext73 false 25 [] 2000 [] oks73 kds73 tys73 Tryz.f73.results [false, false, true] [.code b73] (entE 0 0 sig73 (x0, x1, ())) (entL sig73 (x0, x1, ())) = some ([Dyn.mk Ty.bool false], [], [(!ByteArray.toList x0.1 == ByteArray.toList x1.1) = false, (x0.2.1 != x1.2.1) = false, (x0.2.2.1 != x1.2.2.1) = true]) := by kernel_rfl
theorem p73_3 (x0 : ByteArray × Int × Int × Int × Unit) (x1 : ByteArray × Int × Int × Int × Unit) : runF tab ext73 false 25 [] 2000 [] oks73 kds73 tys73 Tryz.f73.results [false, false, false, true] [.code b73] (entE 0 0 sig73 (x0, x1, ())) (entL sig73 (x0, x1, ())) = some ([Dyn.mk Ty.bool false], [], [(!ByteArray.toList x0.1 == ByteArray.toList x1.1) = false, (x0.2.1 != x1.2.1) = false, (x0.2.2.1 != x1.2.2.1) = false, (x0.2.2.2.1 != x1.2.2.2.1) = true]) := by kernel_rfl
theorem p73_4 (x0 : ByteArray × Int × Int × Int × Unit) (x1 : ByteArray × Int × Int × Int × Unit) : runF tab ext73 false 25 [] 2000 [] oks73 kds73 tys73 Tryz.f73.results [false, false, false, false] [.code b73] (entE 0 0 sig73 (x0, x1, ())) (entL sig73 (x0, x1, ())) = some ([Dyn.mk Ty.bool true], [], [(!ByteArray.toList x0.1 == ByteArray.toList x1.1) = false, (x0.2.1 != x1.2.1) = false, (x0.2.2.1 != x1.2.2.1) = false, (x0.2.2.2.1 != x1.2.2.2.1) = false]) := by kernel_rfl
theorem at73 (x0 : ByteArray × Int × Int × Int × Unit) (x1 : ByteArray × Int × Int × Int × Unit) (h : P73 x0 x1) (K : Ctx) (q : Nat → Value) : AtV Tryz.prog 73 (PostR kds73 oks73 [⟨Ty.bool, g73_0 x0 x1⟩] [] [] q K) 25 K q [] [.code b73] (entE 0 0 sig73 (x0, x1, ())) (entL sig73 (x0, x1, ())) := by
  unfold P73 at h
  unfold g73_0
  by_cases b0 : (!ByteArray.toList x0.1 == ByteArray.toList x1.1) = true
  · try simp only [if_pos b0] at h ⊢
    exact AtV.fin Tryz.func73 tabOk ext73Ok mixed (p73_0 x0 x1) ⟨b0, trivial⟩
  · try simp only [if_neg b0] at h ⊢
    replace b0 := Bool.eq_false_iff.2 b0
    by_cases b1 : (x0.2.1 != x1.2.1) = true
    · try simp only [if_pos b1] at h ⊢
      exact AtV.fin Tryz.func73 tabOk ext73Ok mixed (p73_1 x0 x1) ⟨b0, b1, trivial⟩
    · try simp only [if_neg b1] at h ⊢
      replace b1 := Bool.eq_false_iff.2 b1
      by_cases b2 : (x0.2.2.1 != x1.2.2.1) = true
      · try simp only [if_pos b2] at h ⊢
        exact AtV.fin Tryz.func73 tabOk ext73Ok mixed (p73_2 x0 x1) ⟨b0, b1, b2, trivial⟩
      · try simp only [if_neg b2] at h ⊢
        replace b2 := Bool.eq_false_iff.2 b2
        by_cases b3 : (x0.2.2.2.1 != x1.2.2.2.1) = true
        · try simp only [if_pos b3] at h ⊢
          exact AtV.fin Tryz.func73 tabOk ext73Ok mixed (p73_3 x0 x1) ⟨b0, b1, b2, b3, trivial⟩
        · try simp only [if_neg b3] at h ⊢
          replace b3 := Bool.eq_false_iff.2 b3
          exact AtV.fin Tryz.func73 tabOk ext73Ok mixed (p73_4 x0 x1) ⟨b0, b1, b2, b3, trivial⟩

def S73 : Am.Spec := { sig := sig73, pre := fun ⟨x0, x1, _⟩ => P73 x0 x1, res := fun ⟨x0, x1, _⟩ => [⟨Ty.bool, g73_0 x0 x1⟩], kds := kds73 }
theorem con73 : Contract Tryz.prog 73 S73 := contract_of Tryz.func73 hb73 (Nat.le_of_ble_eq_true (by kernel_rfl)) (fun ⟨x0, x1, _⟩ h _ K q => at73 x0 x1 h K q)


theorem eqd73 (x y : TyB1) : g73_0 x y = true ↔ x = y := by
  obtain ⟨a, b, c, d, u⟩ := x
  obtain ⟨a', b', c', d', u'⟩ := y
  unfold g73_0
  simp only [Bool.not_eq_true', bytes_ne, bne_iff_ne, ne_eq, ite_not]
  by_cases h0 : a = a'
  · by_cases h1 : b = b'
    · by_cases h2 : c = c'
      · by_cases h3 : d = d'
        · simp [h0, h1, h2, h3]
        · simp [h0, h1, h2, h3]
      · simp [h0, h1, h2]
    · simp [h0, h1]
  · simp [h0]

end
end Go.Proofs.YthlhnglkechkaaaGreatDoor

/- Function 36 (laws.eqGroupS): its runs between cut points. Written by a program of this repo (gen). -/
set_option linter.unusedVariables false
set_option linter.unusedSimpArgs false
set_option maxRecDepth 100000
namespace Go.Proofs.YthlhnglkechkaaaGreatDoor
open Go Go.Am Go.Proofs
noncomputable section
def ext36 : Ext := [(73, S73)]
theorem call36_73 : Callable Tryz.prog 73 := ⟨Tryz.f73, Tryz.func73, by kernel_rfl, by kernel_rfl⟩
theorem ext36Ok : ExtOk Tryz.prog ext36 := ⟨⟨call36_73, con73⟩, trivial⟩

noncomputable def b36 : Code := bodyOf Tryz.f36
theorem hb36 : Tryz.f36.body = some b36 := by kernel_rfl
def sig36 : List AT := [AT.v (Ty.sl (Ty.cons Ty.str (Ty.cons (Ty.int .i64) (Ty.cons (Ty.int .i64) (Ty.cons (Ty.int .i64) Ty.unit))))), AT.v (Ty.sl (Ty.cons Ty.str (Ty.cons (Ty.int .i64) (Ty.cons (Ty.int .i64) (Ty.cons (Ty.int .i64) Ty.unit)))))]
def tys36 : List Ty := [Ty.bool]
def kds36 : List RK := []
def oks36 : List AT := owns sig36
def E36_4 (v5 : Int) (x0 : List TyB1) (x1 : List TyB1) : Env := [(0, PV.a (Atom.sl (Ty.cons Ty.str (Ty.cons (Ty.int .i64) (Ty.cons (Ty.int .i64) (Ty.cons (Ty.int .i64) Ty.unit)))) x0)), (1, PV.a (Atom.sl (Ty.cons Ty.str (Ty.cons (Ty.int .i64) (Ty.cons (Ty.int .i64) (Ty.cons (Ty.int .i64) Ty.unit)))) x1)), (5, PV.a (Atom.val (Value.int .i64 v5)))]
def L36_4 (v5 : Int) (x0 : List TyB1) (x1 : List TyB1) : Heap := []
mutual
def R36 : Nat → List TyB1 → List TyB1 → List Dyn → Prop
  | 0, _, _, _ => False
  | n + 1, x0, x1, ds => (if ((↑(List.length x0) : Int) != (↑(List.length x1) : Int)) = true then (ds = [Dyn.mk Ty.bool false]) else (R36_4 n (0) (x0) (x1) ds))
def R36_4 : Nat → Int → List TyB1 → List TyB1 → List Dyn → Prop
  | 0, _, _, _, _ => False
  | n + 1, v5, x0, x1, ds => (if (decide (v5 < (↑(List.length x0) : Int))) = true then ((0 ≤ v5) ∧ (v5 < (↑(List.length x0) : Int)) ∧ ((0 ≤ v5) ∧ (v5 < (↑(List.length x1) : Int)) ∧ (if (!g73_0 (List.getD x0 (Int.toNat v5) (ByteArray.empty, 0, 0, 0, ())) (List.getD x1 (Int.toNat v5) (ByteArray.empty, 0, 0, 0, ()))) = true then (ds = [Dyn.mk Ty.bool false]) else ((InR .i64 (v5 + 1)) ∧ (R36_4 n (v5 + 1) (x0) (x1) ds))))) else (ds = [Dyn.mk Ty.bool true]))
end
theorem p36_0 (x0 : List TyB1) (x1 : List TyB1) : runF tab ext36 false 27 [] 2000 [] oks36 kds36 tys36 Tryz.f36.results [true] [.code b36] (entE 0 0 sig36 (x0, x1, ())) (entL sig36 (x0, x1, ())) = some ([Dyn.mk Ty.bool false], [], [((↑(List.length x0) : Int) != (↑(List.length x1) : Int)) = true]) := by kernel_rfl
theorem p36_1 (x0 : List TyB1) (x1 : List TyB1) : Am.runN tab ext36 false 27 [] 2000 [] [] [0, 1, 5] [] [false] [.code b36] (entE 0 0 sig36 (x0, x1, ())) (entL sig36 (x0, x1, ())) = some (cutAt b36 4, E36_4 (0) (x0) (x1), L36_4 (0) (x0) (x1), [((↑(List.length x0) : Int) != (↑(List.length x1) : Int)) = false]) := by kernel_rfl
theorem p36_2 (v5 : Int) (x0 : List TyB1) (x1 : List TyB1) : runF tab ext36 false 27 [] 2000 [] oks36 kds36 tys36 Tryz.f36.results [true, true] (cutAt b36 4) (E36_4 v5 x0 x1) (L36_4 v5 x0 x1) = some ([Dyn.mk Ty.bool false], [], [decide (v5 < (↑(List.length x0) : Int)) = true, 0 ≤ v5, v5 < (↑(List.length x0) : Int), 0 ≤ v5, v5 < (↑(List.length x1) : Int), True, (!g73_0 (List.getD x0 (Int.toNat v5) (ByteArray.empty, 0, 0, 0, ())) (List.getD x1 (Int.toNat v5) (ByteArray.empty, 0, 0, 0, ()))) = true]) := by kernel_rfl
theorem p36_3 (v5 : Int) (x0 : List TyB1) (x1 : List TyB1) : Am.runN tab ext36 false 27 [] 2000 [] [] [0, 1, 5] [] [true, false] (cutAt b36 4) (E36_4 v5 x0 x1) (L36_4 v5 x0 x1) = some (cutAt b36 4, E36_4 (v5 + 1) (x0) (x1), L36_4 (v5 + 1) (x0) (x1), [decide (v5 < (↑(List.length x0) : Int)) = true, 0 ≤ v5, v5 < (↑(List.length x0) : Int), 0 ≤ v5, v5 < (↑(List.length x1) : Int), True, (!g73_0 (List.getD x0 (Int.toNat v5) (ByteArray.empty, 0, 0, 0, ())) (List.getD x1 (Int.toNat v5) (ByteArray.empty, 0, 0, 0, ()))) = false, InR .i64 (v5 + 1)]) := by kernel_rfl
theorem p36_4 (v5 : Int) (x0 : List TyB1) (x1 : List TyB1) : runF tab ext36 false 27 [] 2000 [] oks36 kds36 tys36 Tryz.f36.results [false] (cutAt b36 4) (E36_4 v5 x0 x1) (L36_4 v5 x0 x1) = some ([Dyn.mk Ty.bool true], [], [decide (v5 < (↑(List.length x0) : Int)) = false]) := by kernel_rfl
theorem snd36 : ∀ n, (∀ (x0 : List TyB1) (x1 : List TyB1) ds, R36 n x0 x1 ds → ∀ K q, AtV Tryz.prog 36 (PostR kds36 oks36 ds [] [] q K) 27 K q [] [.code b36] (entE 0 0 sig36 (x0, x1, ())) (entL sig36 (x0, x1, ()))) ∧ (∀ (v5 : Int) (x0 : List TyB1) (x1 : List TyB1) ds, R36_4 n v5 x0 x1 ds → ∀ K q, AtV Tryz.prog 36 (PostR kds36 oks36 ds [] [] q K) 27 K q [] (cutAt b36 4) (E36_4 v5 x0 x1) (L36_4 v5 x0 x1)) := by
  intro n
  induction n with
  | zero => exact ⟨fun _ _ _ h => by simp only [R36] at h, fun _ _ _ _ h => by simp only [R36_4] at h⟩
  | succ n ih =>
  obtain ⟨ih, ih4⟩ := ih
  refine ⟨?_, ?_⟩
  · intro x0 x1 ds h K q
    rw [R36] at h
    by_cases b0 : ((↑(List.length x0) : Int) != (↑(List.length x1) : Int)) = true
    · rw [if_pos b0] at h
      subst h
      exact AtV.fin Tryz.func36 tabOk ext36Ok mixed (p36_0 x0 x1) ⟨b0, trivial⟩
    · rw [if_neg b0] at h
      replace b0 := Bool.eq_false_iff.2 b0
      exact AtV.runN tabOk ext36Ok mixed (p36_1 x0 x1) ⟨b0, trivial⟩ (ih4 _ _ _ _ h K q)

  · intro v5 x0 x1 ds h K q
    rw [R36_4] at h
    by_cases b0 : (decide (v5 < (↑(List.length x0) : Int))) = true
    · rw [if_pos b0] at h
      obtain ⟨s0, s1, h⟩ := h
      obtain ⟨s2, s3, h⟩ := h
      by_cases b1 : (!g73_0 (List.getD x0 (Int.toNat v5) (ByteArray.empty, 0, 0, 0, ())) (List.getD x1 (Int.toNat v5) (ByteArray.empty, 0, 0, 0, ()))) = true
      · rw [if_pos b1] at h
        subst h
        exact AtV.fin Tryz.func36 tabOk ext36Ok mixed (p36_2 v5 x0 x1) ⟨b0, s0, s1, s2, s3, trivial, b1, trivial⟩
      · rw [if_neg b1] at h
        replace b1 := Bool.eq_false_iff.2 b1
        obtain ⟨s4, h⟩ := h
        exact AtV.runN tabOk ext36Ok mixed (p36_3 v5 x0 x1) ⟨b0, s0, s1, s2, s3, trivial, b1, s4, trivial⟩ (ih4 _ _ _ _ h K q)
    · rw [if_neg b0] at h
      replace b0 := Bool.eq_false_iff.2 b0
      subst h
      exact AtV.fin Tryz.func36 tabOk ext36Ok mixed (p36_4 v5 x0 x1) ⟨b0, trivial⟩



theorem eq36 (x0 x1 : List TyB1) (hl : x0.length = x1.length) (hm : x0.length ≤ maxLen) : ∀ k i : Nat, i + k = x0.length → R36_4 (k + 1) (i : Int) x0 x1 [⟨.bool, decide (x0.drop i = x1.drop i)⟩] := by
  intro k
  induction k with
  | zero =>
    intro i hi
    have h1 : ¬ (i : Int) < (x0.length : Int) := by omega
    rw [R36_4, if_neg (by simpa using h1), drop_end x0 i (by omega), drop_end x1 i (by omega)]
    simp
  | succ k ih =>
    intro i hi
    have h1 : (i : Int) < (x0.length : Int) := by omega
    rw [R36_4, if_pos (by simpa using h1)]
    refine ⟨by omega, h1, by omega, by omega, ?_⟩
    simp only [Int.toNat_natCast]
    rw [drop_get x0 i (ByteArray.empty, (0 : Int), (0 : Int), (0 : Int), ()) (by omega), drop_get x1 i (ByteArray.empty, (0 : Int), (0 : Int), (0 : Int), ()) (by omega)]
    by_cases he : x0.getD i (ByteArray.empty, (0 : Int), (0 : Int), (0 : Int), ()) = x1.getD i (ByteArray.empty, (0 : Int), (0 : Int), (0 : Int), ())
    · have hd := (eqd73 _ _).2 he
      rw [if_neg (by rw [hd]; simp)]
      refine ⟨inR_up hm (by omega), ?_⟩
      have := ih (i + 1) (by omega)
      simp only [he, List.cons.injEq, true_and]
      exact this
    · have hd : g73_0 (x0.getD i (ByteArray.empty, (0 : Int), (0 : Int), (0 : Int), ())) (x1.getD i (ByteArray.empty, (0 : Int), (0 : Int), (0 : Int), ())) = false :=
        Bool.eq_false_iff.2 fun h => he ((eqd73 _ _).1 h)
      rw [if_pos (by rw [hd]; rfl)]
      simp only [he, List.cons.injEq, false_and, decide_false]

def g36_0 (x0 x1 : List TyB1) : Bool := decide (x0 = x1)
def P36 (x0 x1 : List TyB1) : Prop := True
def S36 : Am.Spec := { sig := sig36, pre := fun ⟨x0, x1, _⟩ => P36 x0 x1, res := fun ⟨x0, x1, _⟩ => [⟨Ty.bool, g36_0 x0 x1⟩] }
theorem con36 : Contract Tryz.prog 36 S36 := contract_of Tryz.func36 hb36 (Nat.le_of_ble_eq_true (by kernel_rfl)) (fun ⟨x0, x1, _⟩ h hwf K q => by
  refine (snd36 (x0.length + 2)).1 x0 x1 _ ?_ K q
  show R36 (x0.length + 1 + 1) x0 x1 [⟨Ty.bool, decide (x0 = x1)⟩]
  rw [R36]
  by_cases hl : x0.length = x1.length
  · rw [if_neg (by simp [hl])]
    have := eq36 x0 x1 hl hwf.1.1 x0.length 0 (by omega)
    simpa using this
  · rw [if_pos (by simp; omega)]
    have : x0 ≠ x1 := fun h => hl (by rw [h])
    simp [this])

end
end Go.Proofs.YthlhnglkechkaaaGreatDoor

/- Function 37 (laws.eqRoom): its runs between cut points. Written by a program of this repo (gen). -/
set_option linter.unusedVariables false
set_option linter.unusedSimpArgs false
set_option maxRecDepth 100000
namespace Go.Proofs.YthlhnglkechkaaaGreatDoor
open Go Go.Am Go.Proofs
noncomputable section
def ext37 : Ext := []
theorem ext37Ok : ExtOk Tryz.prog ext37 := trivial

noncomputable def b37 : Code := bodyOf Tryz.f37
theorem hb37 : Tryz.f37.body = some b37 := by kernel_rfl
def sig37 : List AT := [AT.v (Ty.cons (Ty.int .i64) (Ty.cons (Ty.int .i64) (Ty.cons (Ty.int .i64) Ty.unit))), AT.v (Ty.cons (Ty.int .i64) (Ty.cons (Ty.int .i64) (Ty.cons (Ty.int .i64) Ty.unit)))]
def tys37 : List Ty := [Ty.bool]
def kds37 : List RK := []
def oks37 : List AT := owns sig37
def P37 (x0 : Int × Int × Int × Unit) (x1 : Int × Int × Int × Unit) : Prop := True
def g37_0 (x0 : Int × Int × Int × Unit) (x1 : Int × Int × Int × Unit) : Bool := (if (x0.1 != x1.1) = true then false else (if (x0.2.1 != x1.2.1) = true then false else (if (x0.2.2.1 != x1.2.2.1) = true then false else true)))
theorem p37_0 (x0 : Int × Int × Int × Unit) (x1 : Int × Int × Int × Unit) : runF tab ext37 false 20 [] 2000 [] oks37 kds37 tys37 Tryz.f37.results [true] [.code b37] (entE 0 0 sig37 (x0, x1, ())) (entL sig37 (x0, x1, ())) = some ([Dyn.mk Ty.bool false], [], [(x0.1 != x1.1) = true]) := by kernel_rfl
theorem p37_1 (x0 : Int × Int × Int × Unit) (x1 : Int × Int × Int × Unit) : runF tab ext37 false 20 [] 2000 [] oks37 kds37 tys37 Tryz.f37.results [false, true] [.code b37] (entE 0 0 sig37 (x0, x1, ())) (entL sig37 (x0, x1, ())) = some ([Dyn.mk Ty.bool false], [], [(x0.1 != x1.1) = false, (x0.2.1 != x1.2.1) = true]) := by kernel_rfl
theorem p37_2 (x0 : Int × Int × Int × Unit) (x1 : Int × Int × Int × Unit) : runF tab ext37 false 20 [] 2000 [] oks37 kds37 tys37 Tryz.f37.results [false, false, true] [.code b37] (entE 0 0 sig37 (x0, x1, ())) (entL sig37 (x0, x1, ())) = some ([Dyn.mk Ty.bool false], [], [(x0.1 != x1.1) = false, (x0.2.1 != x1.2.1) = false, (x0.2.2.1 != x1.2.2.1) = true]) := by kernel_rfl
theorem p37_3 (x0 : Int × Int × Int × Unit) (x1 : Int × Int × Int × Unit) : runF tab ext37 false 20 [] 2000 [] oks37 kds37 tys37 Tryz.f37.results [false, false, false] [.code b37] (entE 0 0 sig37 (x0, x1, ())) (entL sig37 (x0, x1, ())) = some ([Dyn.mk Ty.bool true], [], [(x0.1 != x1.1) = false, (x0.2.1 != x1.2.1) = false, (x0.2.2.1 != x1.2.2.1) = false]) := by kernel_rfl
theorem at37 (x0 : Int × Int × Int × Unit) (x1 : Int × Int × Int × Unit) (h : P37 x0 x1) (K : Ctx) (q : Nat → Value) : AtV Tryz.prog 37 (PostR kds37 oks37 [⟨Ty.bool, g37_0 x0 x1⟩] [] [] q K) 20 K q [] [.code b37] (entE 0 0 sig37 (x0, x1, ())) (entL sig37 (x0, x1, ())) := by
  unfold P37 at h
  unfold g37_0
  by_cases b0 : (x0.1 != x1.1) = true
  · try simp only [if_pos b0] at h ⊢
    exact AtV.fin Tryz.func37 tabOk ext37Ok mixed (p37_0 x0 x1) ⟨b0, trivial⟩
  · try simp only [if_neg b0] at h ⊢
    replace b0 := Bool.eq_false_iff.2 b0
    by_cases b1 : (x0.2.1 != x1.2.1) = true
    · try simp only [if_pos b1] at h ⊢
      exact AtV.fin Tryz.func37 tabOk ext37Ok mixed (p37_1 x0 x1) ⟨b0, b1, trivial⟩
    · try simp only [if_neg b1] at h ⊢
      replace b1 := Bool.eq_false_iff.2 b1
      by_cases b2 : (x0.2.2.1 != x1.2.2.1) = true
      · try simp only [if_pos b2] at h ⊢
        exact AtV.fin Tryz.func37 tabOk ext37Ok mixed (p37_2 x0 x1) ⟨b0, b1, b2, trivial⟩
      · try simp only [if_neg b2] at h ⊢
        replace b2 := Bool.eq_false_iff.2 b2
        exact AtV.fin Tryz.func37 tabOk ext37Ok mixed (p37_3 x0 x1) ⟨b0, b1, b2, trivial⟩

def S37 : Am.Spec := { sig := sig37, pre := fun ⟨x0, x1, _⟩ => P37 x0 x1, res := fun ⟨x0, x1, _⟩ => [⟨Ty.bool, g37_0 x0 x1⟩], kds := kds37 }
theorem con37 : Contract Tryz.prog 37 S37 := contract_of Tryz.func37 hb37 (Nat.le_of_ble_eq_true (by kernel_rfl)) (fun ⟨x0, x1, _⟩ h _ K q => at37 x0 x1 h K q)


end
end Go.Proofs.YthlhnglkechkaaaGreatDoor

/- Function 74 (laws.eqCheck): its runs between cut points. Written by a program of this repo (gen). -/
set_option linter.unusedVariables false
set_option linter.unusedSimpArgs false
set_option maxRecDepth 100000
namespace Go.Proofs.YthlhnglkechkaaaGreatDoor
open Go Go.Am Go.Proofs
noncomputable section
def ext74 : Ext := []
theorem ext74Ok : ExtOk Tryz.prog ext74 := trivial

noncomputable def b74 : Code := bodyOf Tryz.f74
theorem hb74 : Tryz.f74.body = some b74 := by kernel_rfl
def sig74 : List AT := [AT.v (Ty.cons Ty.str (Ty.cons (Ty.int .i64) (Ty.cons (Ty.int .i64) (Ty.cons (Ty.int .i64) (Ty.cons (Ty.int .i64) Ty.unit))))), AT.v (Ty.cons Ty.str (Ty.cons (Ty.int .i64) (Ty.cons (Ty.int .i64) (Ty.cons (Ty.int .i64) (Ty.cons (Ty.int .i64) Ty.unit)))))]
def tys74 : List Ty := [Ty.bool]
def kds74 : List RK := []
def oks74 : List AT := owns sig74
def P74 (x0 : ByteArray × Int × Int × Int × Int × Unit) (x1 : ByteArray × Int × Int × Int × Int × Unit) : Prop := True
def g74_0 (x0 : ByteArray × Int × Int × Int × Int × Unit) (x1 : ByteArray × Int × Int × Int × Int × Unit) : Bool := (if (!ByteArray.toList x0.1 == ByteArray.toList x1.1) = true then false else (if (x0.2.1 != x1.2.1) = true then false else (if (x0.2.2.1 != x1.2.2.1) = true then false else (if (x0.2.2.2.1 != x1.2.2.2.1) = true then false else (if (x0.2.2.2.2.1 != x1.2.2.2.2.1) = true then false else true)))))
theorem p74_0 (x0 : ByteArray × Int × Int × Int × Int × Unit) (x1 : ByteArray × Int × Int × Int × Int × Unit) : runF tab ext74 false 30 [] 2000 [] oks74 kds74 tys74 Tryz.f74.results [true] [.code b74] (entE 0 0 sig74 (x0, x1, ())) (entL sig74 (x0, x1, ())) = some ([Dyn.mk Ty.bool false], [], [(!ByteArray.toList x0.1 == ByteArray.toList x1.1) = true]) := by kernel_rfl
theorem p74_1 (x0 : ByteArray × Int × Int × Int × Int × Unit) (x1 : ByteArray × Int × Int × Int × Int × Unit) : runF tab ext74 false 30 [] 2000 [] oks74 kds74 tys74 Tryz.f74.results [false, true] [.code b74] (entE 0 0 sig74 (x0, x1, ())) (entL sig74 (x0, x1, ())) = some ([Dyn.mk Ty.bool false], [], [(!ByteArray.toList x0.1 == ByteArray.toList x1.1) = false, (x0.2.1 != x1.2.1) = true]) := by kernel_rfl
theorem p74_2 (x0 : ByteArray × Int × Int × Int × Int × Unit) (x1 : ByteArray × Int × Int × Int × Int × Unit) : runF tab ext74 false 30 [] 2000 [] oks74 kds74 tys74 Tryz.f74.results [false, false, true] [.code b74] (entE 0 0 sig74 (x0, x1, ())) (entL sig74 (x0, x1, ())) = some ([Dyn.mk Ty.bool false], [], [(!ByteArray.toList x0.1 == ByteArray.toList x1.1) = false, (x0.2.1 != x1.2.1) = false, (x0.2.2.1 != x1.2.2.1) = true]) := by kernel_rfl
theorem p74_3 (x0 : ByteArray × Int × Int × Int × Int × Unit) (x1 : ByteArray × Int × Int × Int × Int × Unit) : runF tab ext74 false 30 [] 2000 [] oks74 kds74 tys74 Tryz.f74.results [false, false, false, true] [.code b74] (entE 0 0 sig74 (x0, x1, ())) (entL sig74 (x0, x1, ())) = some ([Dyn.mk Ty.bool false], [], [(!ByteArray.toList x0.1 == ByteArray.toList x1.1) = false, (x0.2.1 != x1.2.1) = false, (x0.2.2.1 != x1.2.2.1) = false, (x0.2.2.2.1 != x1.2.2.2.1) = true]) := by kernel_rfl
theorem p74_4 (x0 : ByteArray × Int × Int × Int × Int × Unit) (x1 : ByteArray × Int × Int × Int × Int × Unit) : runF tab ext74 false 30 [] 2000 [] oks74 kds74 tys74 Tryz.f74.results [false, false, false, false, true] [.code b74] (entE 0 0 sig74 (x0, x1, ())) (entL sig74 (x0, x1, ())) = some ([Dyn.mk Ty.bool false], [], [(!ByteArray.toList x0.1 == ByteArray.toList x1.1) = false, (x0.2.1 != x1.2.1) = false, (x0.2.2.1 != x1.2.2.1) = false, (x0.2.2.2.1 != x1.2.2.2.1) = false, (x0.2.2.2.2.1 != x1.2.2.2.2.1) = true]) := by kernel_rfl
theorem p74_5 (x0 : ByteArray × Int × Int × Int × Int × Unit) (x1 : ByteArray × Int × Int × Int × Int × Unit) : runF tab ext74 false 30 [] 2000 [] oks74 kds74 tys74 Tryz.f74.results [false, false, false, false, false] [.code b74] (entE 0 0 sig74 (x0, x1, ())) (entL sig74 (x0, x1, ())) = some ([Dyn.mk Ty.bool true], [], [(!ByteArray.toList x0.1 == ByteArray.toList x1.1) = false, (x0.2.1 != x1.2.1) = false, (x0.2.2.1 != x1.2.2.1) = false, (x0.2.2.2.1 != x1.2.2.2.1) = false, (x0.2.2.2.2.1 != x1.2.2.2.2.1) = false]) := by kernel_rfl
theorem at74 (x0 : ByteArray × Int × Int × Int × Int × Unit) (x1 : ByteArray × Int × Int × Int × Int × Unit) (h : P74 x0 x1) (K : Ctx) (q : Nat → Value) : AtV Tryz.prog 74 (PostR kds74 oks74 [⟨Ty.bool, g74_0 x0 x1⟩] [] [] q K) 30 K q [] [.code b74] (entE 0 0 sig74 (x0, x1, ())) (entL sig74 (x0, x1, ())) := by
  unfold P74 at h
  unfold g74_0
  by_cases b0 : (!ByteArray.toList x0.1 == ByteArray.toList x1.1) = true
  · try simp only [if_pos b0] at h ⊢
    exact AtV.fin Tryz.func74 tabOk ext74Ok mixed (p74_0 x0 x1) ⟨b0, trivial⟩
  · try simp only [if_neg b0] at h ⊢
    replace b0 := Bool.eq_false_iff.2 b0
    by_cases b1 : (x0.2.1 != x1.2.1) = true
    · try simp only [if_pos b1] at h ⊢
      exact AtV.fin Tryz.func74 tabOk ext74Ok mixed (p74_1 x0 x1) ⟨b0, b1, trivial⟩
    · try simp only [if_neg b1] at h ⊢
      replace b1 := Bool.eq_false_iff.2 b1
      by_cases b2 : (x0.2.2.1 != x1.2.2.1) = true
      · try simp only [if_pos b2] at h ⊢
        exact AtV.fin Tryz.func74 tabOk ext74Ok mixed (p74_2 x0 x1) ⟨b0, b1, b2, trivial⟩
      · try simp only [if_neg b2] at h ⊢
        replace b2 := Bool.eq_false_iff.2 b2
        by_cases b3 : (x0.2.2.2.1 != x1.2.2.2.1) = true
        · try simp only [if_pos b3] at h ⊢
          exact AtV.fin Tryz.func74 tabOk ext74Ok mixed (p74_3 x0 x1) ⟨b0, b1, b2, b3, trivial⟩
        · try simp only [if_neg b3] at h ⊢
          replace b3 := Bool.eq_false_iff.2 b3
          by_cases b4 : (x0.2.2.2.2.1 != x1.2.2.2.2.1) = true
          · try simp only [if_pos b4] at h ⊢
            exact AtV.fin Tryz.func74 tabOk ext74Ok mixed (p74_4 x0 x1) ⟨b0, b1, b2, b3, b4, trivial⟩
          · try simp only [if_neg b4] at h ⊢
            replace b4 := Bool.eq_false_iff.2 b4
            exact AtV.fin Tryz.func74 tabOk ext74Ok mixed (p74_5 x0 x1) ⟨b0, b1, b2, b3, b4, trivial⟩

def S74 : Am.Spec := { sig := sig74, pre := fun ⟨x0, x1, _⟩ => P74 x0 x1, res := fun ⟨x0, x1, _⟩ => [⟨Ty.bool, g74_0 x0 x1⟩], kds := kds74 }
theorem con74 : Contract Tryz.prog 74 S74 := contract_of Tryz.func74 hb74 (Nat.le_of_ble_eq_true (by kernel_rfl)) (fun ⟨x0, x1, _⟩ h _ K q => at74 x0 x1 h K q)


theorem eqd74 (x y : TyB0) : g74_0 x y = true ↔ x = y := by
  obtain ⟨a, b, c, d, e, u⟩ := x
  obtain ⟨a', b', c', d', e', u'⟩ := y
  unfold g74_0
  simp only [Bool.not_eq_true', bytes_ne, bne_iff_ne, ne_eq, ite_not]
  by_cases h0 : a = a'
  · by_cases h1 : b = b'
    · by_cases h2 : c = c'
      · by_cases h3 : d = d'
        · by_cases h4 : e = e'
          · simp [h0, h1, h2, h3, h4]
          · simp [h0, h1, h2, h3, h4]
        · simp [h0, h1, h2, h3]
      · simp [h0, h1, h2]
    · simp [h0, h1]
  · simp [h0]

end
end Go.Proofs.YthlhnglkechkaaaGreatDoor

/- Function 38 (laws.eqCheckS): its runs between cut points. Written by a program of this repo (gen). -/
set_option linter.unusedVariables false
set_option linter.unusedSimpArgs false
set_option maxRecDepth 100000
namespace Go.Proofs.YthlhnglkechkaaaGreatDoor
open Go Go.Am Go.Proofs
noncomputable section
def ext38 : Ext := [(74, S74)]
theorem call38_74 : Callable Tryz.prog 74 := ⟨Tryz.f74, Tryz.func74, by kernel_rfl, by kernel_rfl⟩
theorem ext38Ok : ExtOk Tryz.prog ext38 := ⟨⟨call38_74, con74⟩, trivial⟩

noncomputable def b38 : Code := bodyOf Tryz.f38
theorem hb38 : Tryz.f38.body = some b38 := by kernel_rfl
def sig38 : List AT := [AT.v (Ty.sl (Ty.cons Ty.str (Ty.cons (Ty.int .i64) (Ty.cons (Ty.int .i64) (Ty.cons (Ty.int .i64) (Ty.cons (Ty.int .i64) Ty.unit)))))), AT.v (Ty.sl (Ty.cons Ty.str (Ty.cons (Ty.int .i64) (Ty.cons (Ty.int .i64) (Ty.cons (Ty.int .i64) (Ty.cons (Ty.int .i64) Ty.unit))))))]
def tys38 : List Ty := [Ty.bool]
def kds38 : List RK := []
def oks38 : List AT := owns sig38
def E38_4 (v5 : Int) (x0 : List TyB0) (x1 : List TyB0) : Env := [(0, PV.a (Atom.sl (Ty.cons Ty.str (Ty.cons (Ty.int .i64) (Ty.cons (Ty.int .i64) (Ty.cons (Ty.int .i64) (Ty.cons (Ty.int .i64) Ty.unit))))) x0)), (1, PV.a (Atom.sl (Ty.cons Ty.str (Ty.cons (Ty.int .i64) (Ty.cons (Ty.int .i64) (Ty.cons (Ty.int .i64) (Ty.cons (Ty.int .i64) Ty.unit))))) x1)), (5, PV.a (Atom.val (Value.int .i64 v5)))]
def L38_4 (v5 : Int) (x0 : List TyB0) (x1 : List TyB0) : Heap := []
mutual
def R38 : Nat → List TyB0 → List TyB0 → List Dyn → Prop
  | 0, _, _, _ => False
  | n + 1, x0, x1, ds => (if ((↑(List.length x0) : Int) != (↑(List.length x1) : Int)) = true then (ds = [Dyn.mk Ty.bool false]) else (R38_4 n (0) (x0) (x1) ds))
def R38_4 : Nat → Int → List TyB0 → List TyB0 → List Dyn → Prop
  | 0, _, _, _, _ => False
  | n + 1, v5, x0, x1, ds => (if (decide (v5 < (↑(List.length x0) : Int))) = true then ((0 ≤ v5) ∧ (v5 < (↑(List.length x0) : Int)) ∧ ((0 ≤ v5) ∧ (v5 < (↑(List.length x1) : Int)) ∧ (if (!g74_0 (List.getD x0 (Int.toNat v5) (ByteArray.empty, 0, 0, 0, 0, ())) (List.getD x1 (Int.toNat v5) (ByteArray.empty, 0, 0, 0, 0, ()))) = true then (ds = [Dyn.mk Ty.bool false]) else ((InR .i64 (v5 + 1)) ∧ (R38_4 n (v5 + 1) (x0) (x1) ds))))) else (ds = [Dyn.mk Ty.bool true]))
end
theorem p38_0 (x0 : List TyB0) (x1 : List TyB0) : runF tab ext38 false 27 [] 2000 [] oks38 kds38 tys38 Tryz.f38.results [true] [.code b38] (entE 0 0 sig38 (x0, x1, ())) (entL sig38 (x0, x1, ())) = some ([Dyn.mk Ty.bool false], [], [((↑(List.length x0) : Int) != (↑(List.length x1) : Int)) = true]) := by kernel_rfl
theorem p38_1 (x0 : List TyB0) (x1 : List TyB0) : Am.runN tab ext38 false 27 [] 2000 [] [] [0, 1, 5] [] [false] [.code b38] (entE 0 0 sig38 (x0, x1, ())) (entL sig38 (x0, x1, ())) = some (cutAt b38 4, E38_4 (0) (x0) (x1), L38_4 (0) (x0) (x1), [((↑(List.length x0) : Int) != (↑(List.length x1) : Int)) = false]) := by kernel_rfl
theorem p38_2 (v5 : Int) (x0 : List TyB0) (x1 : List TyB0) : runF tab ext38 false 27 [] 2000 [] oks38 kds38 tys38 Tryz.f38.results [true, true] (cutAt b38 4) (E38_4 v5 x0 x1) (L38_4 v5 x0 x1) = some ([Dyn.mk Ty.bool false], [], [decide (v5 < (↑(List.length x0) : Int)) = true, 0 ≤ v5, v5 < (↑(List.length x0) : Int), 0 ≤ v5, v5 < (↑(List.length x1) : Int), True, (!g74_0 (List.getD x0 (Int.toNat v5) (ByteArray.empty, 0, 0, 0, 0, ())) (List.getD x1 (Int.toNat v5) (ByteArray.empty, 0, 0, 0, 0, ()))) = true]) := by kernel_rfl
theorem p38_3 (v5 : Int) (x0 : List TyB0) (x1 : List TyB0) : Am.runN tab ext38 false 27 [] 2000 [] [] [0, 1, 5] [] [true, false] (cutAt b38 4) (E38_4 v5 x0 x1) (L38_4 v5 x0 x1) = some (cutAt b38 4, E38_4 (v5 + 1) (x0) (x1), L38_4 (v5 + 1) (x0) (x1), [decide (v5 < (↑(List.length x0) : Int)) = true, 0 ≤ v5, v5 < (↑(List.length x0) : Int), 0 ≤ v5, v5 < (↑(List.length x1) : Int), True, (!g74_0 (List.getD x0 (Int.toNat v5) (ByteArray.empty, 0, 0, 0, 0, ())) (List.getD x1 (Int.toNat v5) (ByteArray.empty, 0, 0, 0, 0, ()))) = false, InR .i64 (v5 + 1)]) := by kernel_rfl
theorem p38_4 (v5 : Int) (x0 : List TyB0) (x1 : List TyB0) : runF tab ext38 false 27 [] 2000 [] oks38 kds38 tys38 Tryz.f38.results [false] (cutAt b38 4) (E38_4 v5 x0 x1) (L38_4 v5 x0 x1) = some ([Dyn.mk Ty.bool true], [], [decide (v5 < (↑(List.length x0) : Int)) = false]) := by kernel_rfl
theorem snd38 : ∀ n, (∀ (x0 : List TyB0) (x1 : List TyB0) ds, R38 n x0 x1 ds → ∀ K q, AtV Tryz.prog 38 (PostR kds38 oks38 ds [] [] q K) 27 K q [] [.code b38] (entE 0 0 sig38 (x0, x1, ())) (entL sig38 (x0, x1, ()))) ∧ (∀ (v5 : Int) (x0 : List TyB0) (x1 : List TyB0) ds, R38_4 n v5 x0 x1 ds → ∀ K q, AtV Tryz.prog 38 (PostR kds38 oks38 ds [] [] q K) 27 K q [] (cutAt b38 4) (E38_4 v5 x0 x1) (L38_4 v5 x0 x1)) := by
  intro n
  induction n with
  | zero => exact ⟨fun _ _ _ h => by simp only [R38] at h, fun _ _ _ _ h => by simp only [R38_4] at h⟩
  | succ n ih =>
  obtain ⟨ih, ih4⟩ := ih
  refine ⟨?_, ?_⟩
  · intro x0 x1 ds h K q
    rw [R38] at h
    by_cases b0 : ((↑(List.length x0) : Int) != (↑(List.length x1) : Int)) = true
    · rw [if_pos b0] at h
      subst h
      exact AtV.fin Tryz.func38 tabOk ext38Ok mixed (p38_0 x0 x1) ⟨b0, trivial⟩
    · rw [if_neg b0] at h
      replace b0 := Bool.eq_false_iff.2 b0
      exact AtV.runN tabOk ext38Ok mixed (p38_1 x0 x1) ⟨b0, trivial⟩ (ih4 _ _ _ _ h K q)

  · intro v5 x0 x1 ds h K q
    rw [R38_4] at h
    by_cases b0 : (decide (v5 < (↑(List.length x0) : Int))) = true
    · rw [if_pos b0] at h
      obtain ⟨s0, s1, h⟩ := h
      obtain ⟨s2, s3, h⟩ := h
      by_cases b1 : (!g74_0 (List.getD x0 (Int.toNat v5) (ByteArray.empty, 0, 0, 0, 0, ())) (List.getD x1 (Int.toNat v5) (ByteArray.empty, 0, 0, 0, 0, ()))) = true
      · rw [if_pos b1] at h
        subst h
        exact AtV.fin Tryz.func38 tabOk ext38Ok mixed (p38_2 v5 x0 x1) ⟨b0, s0, s1, s2, s3, trivial, b1, trivial⟩
      · rw [if_neg b1] at h
        replace b1 := Bool.eq_false_iff.2 b1
        obtain ⟨s4, h⟩ := h
        exact AtV.runN tabOk ext38Ok mixed (p38_3 v5 x0 x1) ⟨b0, s0, s1, s2, s3, trivial, b1, s4, trivial⟩ (ih4 _ _ _ _ h K q)
    · rw [if_neg b0] at h
      replace b0 := Bool.eq_false_iff.2 b0
      subst h
      exact AtV.fin Tryz.func38 tabOk ext38Ok mixed (p38_4 v5 x0 x1) ⟨b0, trivial⟩



theorem eq38 (x0 x1 : List TyB0) (hl : x0.length = x1.length) (hm : x0.length ≤ maxLen) : ∀ k i : Nat, i + k = x0.length → R38_4 (k + 1) (i : Int) x0 x1 [⟨.bool, decide (x0.drop i = x1.drop i)⟩] := by
  intro k
  induction k with
  | zero =>
    intro i hi
    have h1 : ¬ (i : Int) < (x0.length : Int) := by omega
    rw [R38_4, if_neg (by simpa using h1), drop_end x0 i (by omega), drop_end x1 i (by omega)]
    simp
  | succ k ih =>
    intro i hi
    have h1 : (i : Int) < (x0.length : Int) := by omega
    rw [R38_4, if_pos (by simpa using h1)]
    refine ⟨by omega, h1, by omega, by omega, ?_⟩
    simp only [Int.toNat_natCast]
    rw [drop_get x0 i (ByteArray.empty, (0 : Int), (0 : Int), (0 : Int), (0 : Int), ()) (by omega), drop_get x1 i (ByteArray.empty, (0 : Int), (0 : Int), (0 : Int), (0 : Int), ()) (by omega)]
    by_cases he : x0.getD i (ByteArray.empty, (0 : Int), (0 : Int), (0 : Int), (0 : Int), ()) = x1.getD i (ByteArray.empty, (0 : Int), (0 : Int), (0 : Int), (0 : Int), ())
    · have hd := (eqd74 _ _).2 he
      rw [if_neg (by rw [hd]; simp)]
      refine ⟨inR_up hm (by omega), ?_⟩
      have := ih (i + 1) (by omega)
      simp only [he, List.cons.injEq, true_and]
      exact this
    · have hd : g74_0 (x0.getD i (ByteArray.empty, (0 : Int), (0 : Int), (0 : Int), (0 : Int), ())) (x1.getD i (ByteArray.empty, (0 : Int), (0 : Int), (0 : Int), (0 : Int), ())) = false :=
        Bool.eq_false_iff.2 fun h => he ((eqd74 _ _).1 h)
      rw [if_pos (by rw [hd]; rfl)]
      simp only [he, List.cons.injEq, false_and, decide_false]

def g38_0 (x0 x1 : List TyB0) : Bool := decide (x0 = x1)
def P38 (x0 x1 : List TyB0) : Prop := True
def S38 : Am.Spec := { sig := sig38, pre := fun ⟨x0, x1, _⟩ => P38 x0 x1, res := fun ⟨x0, x1, _⟩ => [⟨Ty.bool, g38_0 x0 x1⟩] }
theorem con38 : Contract Tryz.prog 38 S38 := contract_of Tryz.func38 hb38 (Nat.le_of_ble_eq_true (by kernel_rfl)) (fun ⟨x0, x1, _⟩ h hwf K q => by
  refine (snd38 (x0.length + 2)).1 x0 x1 _ ?_ K q
  show R38 (x0.length + 1 + 1) x0 x1 [⟨Ty.bool, decide (x0 = x1)⟩]
  rw [R38]
  by_cases hl : x0.length = x1.length
  · rw [if_neg (by simp [hl])]
    have := eq38 x0 x1 hl hwf.1.1 x0.length 0 (by omega)
    simpa using this
  · rw [if_pos (by simp; omega)]
    have : x0 ≠ x1 := fun h => hl (by rw [h])
    simp [this])

end
end Go.Proofs.YthlhnglkechkaaaGreatDoor

/- Function 75 (laws.eqRide): its runs between cut points. Written by a program of this repo (gen). -/
set_option linter.unusedVariables false
set_option linter.unusedSimpArgs false
set_option maxRecDepth 100000
namespace Go.Proofs.YthlhnglkechkaaaGreatDoor
open Go Go.Am Go.Proofs
noncomputable section
def ext75 : Ext := []
theorem ext75Ok : ExtOk Tryz.prog ext75 := trivial

noncomputable def b75 : Code := bodyOf Tryz.f75
theorem hb75 : Tryz.f75.body = some b75 := by kernel_rfl
def sig75 : List AT := [AT.v (Ty.cons (Ty.int .i64) (Ty.cons (Ty.int .i64) Ty.unit)), AT.v (Ty.cons (Ty.int .i64) (Ty.cons (Ty.int .i64) Ty.unit))]
def tys75 : List Ty := [Ty.bool]
def kds75 : List RK := []
def oks75 : List AT := owns sig75
def P75 (x0 : Int × Int × Unit) (x1 : Int × Int × Unit) : Prop := True
def g75_0 (x0 : Int × Int × Unit) (x1 : Int × Int × Unit) : Bool := (if (x0.1 != x1.1) = true then false else (if (x0.2.1 != x1.2.1) = true then false else true))
theorem p75_0 (x0 : Int × Int × Unit) (x1 : Int × Int × Unit) : runF tab ext75 false 15 [] 2000 [] oks75 kds75 tys75 Tryz.f75.results [true] [.code b75] (entE 0 0 sig75 (x0, x1, ())) (entL sig75 (x0, x1, ())) = some ([Dyn.mk Ty.bool false], [], [(x0.1 != x1.1) = true]) := by kernel_rfl
theorem p75_1 (x0 : Int × Int × Unit) (x1 : Int × Int × Unit) : runF tab ext75 false 15 [] 2000 [] oks75 kds75 tys75 Tryz.f75.results [false, true] [.code b75] (entE 0 0 sig75 (x0, x1, ())) (entL sig75 (x0, x1, ())) = some ([Dyn.mk Ty.bool false], [], [(x0.1 != x1.1) = false, (x0.2.1 != x1.2.1) = true]) := by kernel_rfl
theorem p75_2 (x0 : Int × Int × Unit) (x1 : Int × Int × Unit) : runF tab ext75 false 15 [] 2000 [] oks75 kds75 tys75 Tryz.f75.results [false, false] [.code b75] (entE 0 0 sig75 (x0, x1, ())) (entL sig75 (x0, x1, ())) = some ([Dyn.mk Ty.bool true], [], [(x0.1 != x1.1) = false, (x0.2.1 != x1.2.1) = false]) := by kernel_rfl
theorem at75 (x0 : Int × Int × Unit) (x1 : Int × Int × Unit) (h : P75 x0 x1) (K : Ctx) (q : Nat → Value) : AtV Tryz.prog 75 (PostR kds75 oks75 [⟨Ty.bool, g75_0 x0 x1⟩] [] [] q K) 15 K q [] [.code b75] (entE 0 0 sig75 (x0, x1, ())) (entL sig75 (x0, x1, ())) := by
  unfold P75 at h
  unfold g75_0
  by_cases b0 : (x0.1 != x1.1) = true
  · try simp only [if_pos b0] at h ⊢
    exact AtV.fin Tryz.func75 tabOk ext75Ok mixed (p75_0 x0 x1) ⟨b0, trivial⟩
  · try simp only [if_neg b0] at h ⊢
    replace b0 := Bool.eq_false_iff.2 b0
    by_cases b1 : (x0.2.1 != x1.2.1) = true
    · try simp only [if_pos b1] at h ⊢
      exact AtV.fin Tryz.func75 tabOk ext75Ok mixed (p75_1 x0 x1) ⟨b0, b1, trivial⟩
    · try simp only [if_neg b1] at h ⊢
      replace b1 := Bool.eq_false_iff.2 b1
      exact AtV.fin Tryz.func75 tabOk ext75Ok mixed (p75_2 x0 x1) ⟨b0, b1, trivial⟩

def S75 : Am.Spec := { sig := sig75, pre := fun ⟨x0, x1, _⟩ => P75 x0 x1, res := fun ⟨x0, x1, _⟩ => [⟨Ty.bool, g75_0 x0 x1⟩], kds := kds75 }
theorem con75 : Contract Tryz.prog 75 S75 := contract_of Tryz.func75 hb75 (Nat.le_of_ble_eq_true (by kernel_rfl)) (fun ⟨x0, x1, _⟩ h _ K q => at75 x0 x1 h K q)


theorem eqd75 (x y : TyB3) : g75_0 x y = true ↔ x = y := by
  obtain ⟨a, b, u⟩ := x
  obtain ⟨a', b', u'⟩ := y
  unfold g75_0
  simp only [Bool.not_eq_true', bytes_ne, bne_iff_ne, ne_eq, ite_not]
  by_cases h0 : a = a'
  · by_cases h1 : b = b'
    · simp [h0, h1]
    · simp [h0, h1]
  · simp [h0]

end
end Go.Proofs.YthlhnglkechkaaaGreatDoor

/- Function 39 (laws.eqRideS): its runs between cut points. Written by a program of this repo (gen). -/
set_option linter.unusedVariables false
set_option linter.unusedSimpArgs false
set_option maxRecDepth 100000
namespace Go.Proofs.YthlhnglkechkaaaGreatDoor
open Go Go.Am Go.Proofs
noncomputable section
def ext39 : Ext := [(75, S75)]
theorem call39_75 : Callable Tryz.prog 75 := ⟨Tryz.f75, Tryz.func75, by kernel_rfl, by kernel_rfl⟩
theorem ext39Ok : ExtOk Tryz.prog ext39 := ⟨⟨call39_75, con75⟩, trivial⟩

noncomputable def b39 : Code := bodyOf Tryz.f39
theorem hb39 : Tryz.f39.body = some b39 := by kernel_rfl
def sig39 : List AT := [AT.v (Ty.sl (Ty.cons (Ty.int .i64) (Ty.cons (Ty.int .i64) Ty.unit))), AT.v (Ty.sl (Ty.cons (Ty.int .i64) (Ty.cons (Ty.int .i64) Ty.unit)))]
def tys39 : List Ty := [Ty.bool]
def kds39 : List RK := []
def oks39 : List AT := owns sig39
def E39_4 (v5 : Int) (x0 : List TyB3) (x1 : List TyB3) : Env := [(0, PV.a (Atom.sl (Ty.cons (Ty.int .i64) (Ty.cons (Ty.int .i64) Ty.unit)) x0)), (1, PV.a (Atom.sl (Ty.cons (Ty.int .i64) (Ty.cons (Ty.int .i64) Ty.unit)) x1)), (5, PV.a (Atom.val (Value.int .i64 v5)))]
def L39_4 (v5 : Int) (x0 : List TyB3) (x1 : List TyB3) : Heap := []
mutual
def R39 : Nat → List TyB3 → List TyB3 → List Dyn → Prop
  | 0, _, _, _ => False
  | n + 1, x0, x1, ds => (if ((↑(List.length x0) : Int) != (↑(List.length x1) : Int)) = true then (ds = [Dyn.mk Ty.bool false]) else (R39_4 n (0) (x0) (x1) ds))
def R39_4 : Nat → Int → List TyB3 → List TyB3 → List Dyn → Prop
  | 0, _, _, _, _ => False
  | n + 1, v5, x0, x1, ds => (if (decide (v5 < (↑(List.length x0) : Int))) = true then ((0 ≤ v5) ∧ (v5 < (↑(List.length x0) : Int)) ∧ ((0 ≤ v5) ∧ (v5 < (↑(List.length x1) : Int)) ∧ (if (!g75_0 (List.getD x0 (Int.toNat v5) (0, 0, ())) (List.getD x1 (Int.toNat v5) (0, 0, ()))) = true then (ds = [Dyn.mk Ty.bool false]) else ((InR .i64 (v5 + 1)) ∧ (R39_4 n (v5 + 1) (x0) (x1) ds))))) else (ds = [Dyn.mk Ty.bool true]))
end
theorem p39_0 (x0 : List TyB3) (x1 : List TyB3) : runF tab ext39 false 27 [] 2000 [] oks39 kds39 tys39 Tryz.f39.results [true] [.code b39] (entE 0 0 sig39 (x0, x1, ())) (entL sig39 (x0, x1, ())) = some ([Dyn.mk Ty.bool false], [], [((↑(List.length x0) : Int) != (↑(List.length x1) : Int)) = true]) := by kernel_rfl
theorem p39_1 (x0 : List TyB3) (x1 : List TyB3) : Am.runN tab ext39 false 27 [] 2000 [] [] [0, 1, 5] [] [false] [.code b39] (entE 0 0 sig39 (x0, x1, ())) (entL sig39 (x0, x1, ())) = some (cutAt b39 4, E39_4 (0) (x0) (x1), L39_4 (0) (x0) (x1), [((↑(List.length x0) : Int) != (↑(List.length x1) : Int)) = false]) := by kernel_rfl
theorem p39_2 (v5 : Int) (x0 : List TyB3) (x1 : List TyB3) : runF tab ext39 false 27 [] 2000 [] oks39 kds39 tys39 Tryz.f39.results [true, true] (cutAt b39 4) (E39_4 v5 x0 x1) (L39_4 v5 x0 x1) = some ([Dyn.mk Ty.bool false], [], [decide (v5 < (↑(List.length x0) : Int)) = true, 0 ≤ v5, v5 < (↑(List.length x0) : Int), 0 ≤ v5, v5 < (↑(List.length x1) : Int), True, (!g75_0 (List.getD x0 (Int.toNat v5) (0, 0, ())) (List.getD x1 (Int.toNat v5) (0, 0, ()))) = true]) := by kernel_rfl
theorem p39_3 (v5 : Int) (x0 : List TyB3) (x1 : List TyB3) : Am.runN tab ext39 false 27 [] 2000 [] [] [0, 1, 5] [] [true, false] (cutAt b39 4) (E39_4 v5 x0 x1) (L39_4 v5 x0 x1) = some (cutAt b39 4, E39_4 (v5 + 1) (x0) (x1), L39_4 (v5 + 1) (x0) (x1), [decide (v5 < (↑(List.length x0) : Int)) = true, 0 ≤ v5, v5 < (↑(List.length x0) : Int), 0 ≤ v5, v5 < (↑(List.length x1) : Int), True, (!g75_0 (List.getD x0 (Int.toNat v5) (0, 0, ())) (List.getD x1 (Int.toNat v5) (0, 0, ()))) = false, InR .i64 (v5 + 1)]) := by kernel_rfl
theorem p39_4 (v5 : Int) (x0 : List TyB3) (x1 : List TyB3) : runF tab ext39 false 27 [] 2000 [] oks39 kds39 tys39 Tryz.f39.results [false] (cutAt b39 4) (E39_4 v5 x0 x1) (L39_4 v5 x0 x1) = some ([Dyn.mk Ty.bool true], [], [decide (v5 < (↑(List.length x0) : Int)) = false]) := by kernel_rfl
theorem snd39 : ∀ n, (∀ (x0 : List TyB3) (x1 : List TyB3) ds, R39 n x0 x1 ds → ∀ K q, AtV Tryz.prog 39 (PostR kds39 oks39 ds [] [] q K) 27 K q [] [.code b39] (entE 0 0 sig39 (x0, x1, ())) (entL sig39 (x0, x1, ()))) ∧ (∀ (v5 : Int) (x0 : List TyB3) (x1 : List TyB3) ds, R39_4 n v5 x0 x1 ds → ∀ K q, AtV Tryz.prog 39 (PostR kds39 oks39 ds [] [] q K) 27 K q [] (cutAt b39 4) (E39_4 v5 x0 x1) (L39_4 v5 x0 x1)) := by
  intro n
  induction n with
  | zero => exact ⟨fun _ _ _ h => by simp only [R39] at h, fun _ _ _ _ h => by simp only [R39_4] at h⟩
  | succ n ih =>
  obtain ⟨ih, ih4⟩ := ih
  refine ⟨?_, ?_⟩
  · intro x0 x1 ds h K q
    rw [R39] at h
    by_cases b0 : ((↑(List.length x0) : Int) != (↑(List.length x1) : Int)) = true
    · rw [if_pos b0] at h
      subst h
      exact AtV.fin Tryz.func39 tabOk ext39Ok mixed (p39_0 x0 x1) ⟨b0, trivial⟩
    · rw [if_neg b0] at h
      replace b0 := Bool.eq_false_iff.2 b0
      exact AtV.runN tabOk ext39Ok mixed (p39_1 x0 x1) ⟨b0, trivial⟩ (ih4 _ _ _ _ h K q)

  · intro v5 x0 x1 ds h K q
    rw [R39_4] at h
    by_cases b0 : (decide (v5 < (↑(List.length x0) : Int))) = true
    · rw [if_pos b0] at h
      obtain ⟨s0, s1, h⟩ := h
      obtain ⟨s2, s3, h⟩ := h
      by_cases b1 : (!g75_0 (List.getD x0 (Int.toNat v5) (0, 0, ())) (List.getD x1 (Int.toNat v5) (0, 0, ()))) = true
      · rw [if_pos b1] at h
        subst h
        exact AtV.fin Tryz.func39 tabOk ext39Ok mixed (p39_2 v5 x0 x1) ⟨b0, s0, s1, s2, s3, trivial, b1, trivial⟩
      · rw [if_neg b1] at h
        replace b1 := Bool.eq_false_iff.2 b1
        obtain ⟨s4, h⟩ := h
        exact AtV.runN tabOk ext39Ok mixed (p39_3 v5 x0 x1) ⟨b0, s0, s1, s2, s3, trivial, b1, s4, trivial⟩ (ih4 _ _ _ _ h K q)
    · rw [if_neg b0] at h
      replace b0 := Bool.eq_false_iff.2 b0
      subst h
      exact AtV.fin Tryz.func39 tabOk ext39Ok mixed (p39_4 v5 x0 x1) ⟨b0, trivial⟩



theorem eq39 (x0 x1 : List TyB3) (hl : x0.length = x1.length) (hm : x0.length ≤ maxLen) : ∀ k i : Nat, i + k = x0.length → R39_4 (k + 1) (i : Int) x0 x1 [⟨.bool, decide (x0.drop i = x1.drop i)⟩] := by
  intro k
  induction k with
  | zero =>
    intro i hi
    have h1 : ¬ (i : Int) < (x0.length : Int) := by omega
    rw [R39_4, if_neg (by simpa using h1), drop_end x0 i (by omega), drop_end x1 i (by omega)]
    simp
  | succ k ih =>
    intro i hi
    have h1 : (i : Int) < (x0.length : Int) := by omega
    rw [R39_4, if_pos (by simpa using h1)]
    refine ⟨by omega, h1, by omega, by omega, ?_⟩
    simp only [Int.toNat_natCast]
    rw [drop_get x0 i ((0 : Int), (0 : Int), ()) (by omega), drop_get x1 i ((0 : Int), (0 : Int), ()) (by omega)]
    by_cases he : x0.getD i ((0 : Int), (0 : Int), ()) = x1.getD i ((0 : Int), (0 : Int), ())
    · have hd := (eqd75 _ _).2 he
      rw [if_neg (by rw [hd]; simp)]
      refine ⟨inR_up hm (by omega), ?_⟩
      have := ih (i + 1) (by omega)
      simp only [he, List.cons.injEq, true_and]
      exact this
    · have hd : g75_0 (x0.getD i ((0 : Int), (0 : Int), ())) (x1.getD i ((0 : Int), (0 : Int), ())) = false :=
        Bool.eq_false_iff.2 fun h => he ((eqd75 _ _).1 h)
      rw [if_pos (by rw [hd]; rfl)]
      simp only [he, List.cons.injEq, false_and, decide_false]

def g39_0 (x0 x1 : List TyB3) : Bool := decide (x0 = x1)
def P39 (x0 x1 : List TyB3) : Prop := True
def S39 : Am.Spec := { sig := sig39, pre := fun ⟨x0, x1, _⟩ => P39 x0 x1, res := fun ⟨x0, x1, _⟩ => [⟨Ty.bool, g39_0 x0 x1⟩] }
theorem con39 : Contract Tryz.prog 39 S39 := contract_of Tryz.func39 hb39 (Nat.le_of_ble_eq_true (by kernel_rfl)) (fun ⟨x0, x1, _⟩ h hwf K q => by
  refine (snd39 (x0.length + 2)).1 x0 x1 _ ?_ K q
  show R39 (x0.length + 1 + 1) x0 x1 [⟨Ty.bool, decide (x0 = x1)⟩]
  rw [R39]
  by_cases hl : x0.length = x1.length
  · rw [if_neg (by simp [hl])]
    have := eq39 x0 x1 hl hwf.1.1 x0.length 0 (by omega)
    simpa using this
  · rw [if_pos (by simp; omega)]
    have : x0 ≠ x1 := fun h => hl (by rw [h])
    simp [this])

end
end Go.Proofs.YthlhnglkechkaaaGreatDoor

/- Function 76 (laws.eqLine): its runs between cut points. Written by a program of this repo (gen). -/
set_option linter.unusedVariables false
set_option linter.unusedSimpArgs false
set_option maxRecDepth 100000
namespace Go.Proofs.YthlhnglkechkaaaGreatDoor
open Go Go.Am Go.Proofs
noncomputable section
def ext76 : Ext := []
theorem ext76Ok : ExtOk Tryz.prog ext76 := trivial

noncomputable def b76 : Code := bodyOf Tryz.f76
theorem hb76 : Tryz.f76.body = some b76 := by kernel_rfl
def sig76 : List AT := [AT.v (Ty.cons (Ty.int .i64) (Ty.cons (Ty.int .i64) (Ty.cons Ty.str (Ty.cons (Ty.int .i64) Ty.unit)))), AT.v (Ty.cons (Ty.int .i64) (Ty.cons (Ty.int .i64) (Ty.cons Ty.str (Ty.cons (Ty.int .i64) Ty.unit))))]
def tys76 : List Ty := [Ty.bool]
def kds76 : List RK := []
def oks76 : List AT := owns sig76
def P76 (x0 : Int × Int × ByteArray × Int × Unit) (x1 : Int × Int × ByteArray × Int × Unit) : Prop := True
def g76_0 (x0 : Int × Int × ByteArray × Int × Unit) (x1 : Int × Int × ByteArray × Int × Unit) : Bool := (if (x0.1 != x1.1) = true then false else (if (x0.2.1 != x1.2.1) = true then false else (if (!ByteArray.toList x0.2.2.1 == ByteArray.toList x1.2.2.1) = true then false else (if (x0.2.2.2.1 != x1.2.2.2.1) = true then false else true))))
theorem p76_0 (x0 : Int × Int × ByteArray × Int × Unit) (x1 : Int × Int × ByteArray × Int × Unit) : runF tab ext76 false 25 [] 2000 [] oks76 kds76 tys76 Tryz.f76.results [true] [.code b76] (entE 0 0 sig76 (x0, x1, ())) (entL sig76 (x0, x1, ())) = some ([Dyn.mk Ty.bool false], [], [(x0.1 != x1.1) = true]) := by kernel_rfl
theorem p76_1 (x0 : Int × Int × ByteArray × Int × Unit) (x1 : Int × Int × ByteArray × Int × Unit) : runF tab ext76 false 25 [] 2000 [] oks76 kds76 tys76 Tryz.f76.results [false, true] [.code b76] (entE 0 0 sig76 (x0, x1, ())) (entL sig76 (x0, x1, ())) = some ([Dyn.mk Ty.bool false], [], [(x0.1 != x1.1) = false, (x0.2.1 != x1.2.1) = true]) := by kernel_rfl
theorem p76_2 (x0 : Int × Int × ByteArray × Int × Unit) (x1 : Int × Int × ByteArray × Int × Unit) : runF tab ext76 false 25 [] 2000 [] oks76 kds76 tys76 Tryz.f76.results [false, false, true] [.code b76] (entE 0 0 sig76 (x0, x1, ())) (entL sig76 (x0, x1, ())) = some ([Dyn.mk Ty.bool false], [], [(x0.1 != x1.1) = false, (x0.2.1 != x1.2.1) = false, (!ByteArray.toList x0.2.2.1 == ByteArray.toList x1.2.2.1) = true]) := by kernel_rfl
theorem p76_3 (x0 : Int × Int × ByteArray × Int × Unit) (x1 : Int × Int × ByteArray × Int × Unit) : runF tab ext76 false 25 [] 2000 [] oks76 kds76 tys76 Tryz.f76.results [false, false, false, true] [.code b76] (entE 0 0 sig76 (x0, x1, ())) (entL sig76 (x0, x1, ())) = some ([Dyn.mk Ty.bool false], [], [(x0.1 != x1.1) = false, (x0.2.1 != x1.2.1) = false, (!ByteArray.toList x0.2.2.1 == ByteArray.toList x1.2.2.1) = false, (x0.2.2.2.1 != x1.2.2.2.1) = true]) := by kernel_rfl
theorem p76_4 (x0 : Int × Int × ByteArray × Int × Unit) (x1 : Int × Int × ByteArray × Int × Unit) : runF tab ext76 false 25 [] 2000 [] oks76 kds76 tys76 Tryz.f76.results [false, false, false, false] [.code b76] (entE 0 0 sig76 (x0, x1, ())) (entL sig76 (x0, x1, ())) = some ([Dyn.mk Ty.bool true], [], [(x0.1 != x1.1) = false, (x0.2.1 != x1.2.1) = false, (!ByteArray.toList x0.2.2.1 == ByteArray.toList x1.2.2.1) = false, (x0.2.2.2.1 != x1.2.2.2.1) = false]) := by kernel_rfl
theorem at76 (x0 : Int × Int × ByteArray × Int × Unit) (x1 : Int × Int × ByteArray × Int × Unit) (h : P76 x0 x1) (K : Ctx) (q : Nat → Value) : AtV Tryz.prog 76 (PostR kds76 oks76 [⟨Ty.bool, g76_0 x0 x1⟩] [] [] q K) 25 K q [] [.code b76] (entE 0 0 sig76 (x0, x1, ())) (entL sig76 (x0, x1, ())) := by
  unfold P76 at h
  unfold g76_0
  by_cases b0 : (x0.1 != x1.1) = true
  · try simp only [if_pos b0] at h ⊢
    exact AtV.fin Tryz.func76 tabOk ext76Ok mixed (p76_0 x0 x1) ⟨b0, trivial⟩
  · try simp only [if_neg b0] at h ⊢
    replace b0 := Bool.eq_false_iff.2 b0
    by_cases b1 : (x0.2.1 != x1.2.1) = true
    · try simp only [if_pos b1] at h ⊢
      exact AtV.fin Tryz.func76 tabOk ext76Ok mixed (p76_1 x0 x1) ⟨b0, b1, trivial⟩
    · try simp only [if_neg b1] at h ⊢
      replace b1 := Bool.eq_false_iff.2 b1
      by_cases b2 : (!ByteArray.toList x0.2.2.1 == ByteArray.toList x1.2.2.1) = true
      · try simp only [if_pos b2] at h ⊢
        exact AtV.fin Tryz.func76 tabOk ext76Ok mixed (p76_2 x0 x1) ⟨b0, b1, b2, trivial⟩
      · try simp only [if_neg b2] at h ⊢
        replace b2 := Bool.eq_false_iff.2 b2
        by_cases b3 : (x0.2.2.2.1 != x1.2.2.2.1) = true
        · try simp only [if_pos b3] at h ⊢
          exact AtV.fin Tryz.func76 tabOk ext76Ok mixed (p76_3 x0 x1) ⟨b0, b1, b2, b3, trivial⟩
        · try simp only [if_neg b3] at h ⊢
          replace b3 := Bool.eq_false_iff.2 b3
          exact AtV.fin Tryz.func76 tabOk ext76Ok mixed (p76_4 x0 x1) ⟨b0, b1, b2, b3, trivial⟩

def S76 : Am.Spec := { sig := sig76, pre := fun ⟨x0, x1, _⟩ => P76 x0 x1, res := fun ⟨x0, x1, _⟩ => [⟨Ty.bool, g76_0 x0 x1⟩], kds := kds76 }
theorem con76 : Contract Tryz.prog 76 S76 := contract_of Tryz.func76 hb76 (Nat.le_of_ble_eq_true (by kernel_rfl)) (fun ⟨x0, x1, _⟩ h _ K q => at76 x0 x1 h K q)


theorem eqd76 (x y : TyB2) : g76_0 x y = true ↔ x = y := by
  obtain ⟨a, b, c, d, u⟩ := x
  obtain ⟨a', b', c', d', u'⟩ := y
  unfold g76_0
  simp only [Bool.not_eq_true', bytes_ne, bne_iff_ne, ne_eq, ite_not]
  by_cases h0 : a = a'
  · by_cases h1 : b = b'
    · by_cases h2 : c = c'
      · by_cases h3 : d = d'
        · simp [h0, h1, h2, h3]
        · simp [h0, h1, h2, h3]
      · simp [h0, h1, h2]
    · simp [h0, h1]
  · simp [h0]

end
end Go.Proofs.YthlhnglkechkaaaGreatDoor
