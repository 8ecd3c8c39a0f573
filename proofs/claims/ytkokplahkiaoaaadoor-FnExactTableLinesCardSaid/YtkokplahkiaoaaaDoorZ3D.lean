/- Several texts in one: the functions that this law reaches, and their laws. -/
import Derived.Test.YtkokplahkiaoaaaDoorZ3A
import Derived.Test.YtkokplahkiaoaaaDoorZ3B
import Derived.Test.YtkokplahkiaoaaaDoorZ3C
import Derived.Lib.TrimByte
import Derived.Shelf.Strings.Builder1
import Derived.Shelf.Strings.Builder2
import Derived.Shelf.Strings.OnBuilder
import Derived.Shelf.Strings.Trim
import Derived.Shelf.Small.Utf8
import Derived.Shelf.Small.Strs
import Derived.Shelf.Strings.BuilderF
import Derived.Shelf.Strings.BuilderK
import Derived.Shelf.Strings.Builder2Cap
import Derived.Shelf.Strings.Search1
import Derived.Shelf.Strings.Prefix
import Derived.Shelf.Unicode.Decode
import Derived.Shelf.Strings.Runes
import Derived.Shelf.Strings.AsciiSet
import Derived.Shelf.Bits.Mul64
import Derived.Shelf.Strings.Repeat
import Derived.Shelf.Unicode.DecodeSlow
import Derived.Shelf.Unicode.DecodeAny
import Derived.Shelf.Unicode.DecodeLast
import Derived.Shelf.Strings.BuilderCap
import Derived.Ground.SlgfProg
import Derived.Shelf.SlicesE.IndexFunc
import Derived.WalkKit
import Derived.Lib.Walk
import Derived.Lib.SliceRun
import Derived.Laws.AppendOwn
import Derived.Laws.OwnMore
import Derived.Deep.LoopGhost
import Derived.Shelf.RegionOpenPlain
import Derived.Lib.Join

/- Function 16 (spec.l30Table): its runs between cut points. Written by a program of this repo (gen). -/
set_option linter.unusedVariables false
set_option linter.unusedSimpArgs false
set_option maxRecDepth 100000
namespace Go.Proofs.YtkokplahkiaoaaaDoor
open Go Go.Am Go.Proofs
noncomputable section
def ext16 : Ext := []
theorem ext16Ok : ExtOk Tryd.prog ext16 := trivial

noncomputable def b16 : Code := bodyOf Tryd.f16
theorem hb16 : Tryd.f16.body = some b16 := by kernel_rfl
def sig16 : List AT := [AT.v (Ty.sl (Ty.sl Ty.str))]
def tys16 : List Ty := [Ty.sl Ty.str]
def kds16 : List RK := []
def oks16 : List AT := owns sig16
def E16_3 (v4 : Int) (h0 : List Int) (x0 : List (List ByteArray)) : Env := [(0, PV.a (Atom.sl (Ty.sl Ty.str) x0)), (3, PV.a (Atom.osl 0 Option.none)), (4, PV.a (Atom.val (Value.int IntKind.i64 v4)))]
def L16_3 (v4 : Int) (h0 : List Int) (x0 : List (List ByteArray)) : Heap := [Option.some (Arr.mk (Ty.int IntKind.i64) h0 Bool.false Option.none Option.none)]
def E16_6 (v5 : Int) (h0 : List Int) (x0 : List (List ByteArray)) (v4 : Int) : Env := [(0, PV.a (Atom.sl (Ty.sl Ty.str) x0)), (3, PV.a (Atom.osl 0 Option.none)), (4, PV.a (Atom.val (Value.int IntKind.i64 v4))), (5, PV.a (Atom.val (Value.int IntKind.i64 v5)))]
def L16_6 (v5 : Int) (h0 : List Int) (x0 : List (List ByteArray)) (v4 : Int) : Heap := [Option.some (Arr.mk (Ty.int IntKind.i64) h0 Bool.false Option.none Option.none)]
def E16_12 (v7 : Int) (h1 : List ByteArray) (x0 : List (List ByteArray)) (h0 : List Int) : Env := [(0, PV.a (Atom.sl (Ty.sl Ty.str) x0)), (3, PV.a (Atom.osl 0 Option.none)), (6, PV.a (Atom.osl 1 Option.none)), (7, PV.a (Atom.val (Value.int IntKind.i64 v7)))]
def L16_12 (v7 : Int) (h1 : List ByteArray) (x0 : List (List ByteArray)) (h0 : List Int) : Heap := [Option.some (Arr.mk (Ty.int IntKind.i64) h0 Bool.false Option.none Option.none), Option.some (Arr.mk Ty.str h1 Bool.false Option.none Option.none)]
def E16_16 (v8 : ByteArray) (v9 : Int) (x0 : List (List ByteArray)) (v7 : Int) (h0 : List Int) (h1 : List ByteArray) : Env := [(0, PV.a (Atom.sl (Ty.sl Ty.str) x0)), (3, PV.a (Atom.osl 0 Option.none)), (6, PV.a (Atom.osl 1 Option.none)), (7, PV.a (Atom.val (Value.int IntKind.i64 v7))), (8, PV.a (Atom.val (Value.string v8))), (9, PV.a (Atom.val (Value.int IntKind.i64 v9)))]
def L16_16 (v8 : ByteArray) (v9 : Int) (x0 : List (List ByteArray)) (v7 : Int) (h0 : List Int) (h1 : List ByteArray) : Heap := [Option.some (Arr.mk (Ty.int IntKind.i64) h0 Bool.false Option.none Option.none), Option.some (Arr.mk Ty.str h1 Bool.false Option.none Option.none)]
def E16_22 (v8 : ByteArray) (v10 : Int) (x0 : List (List ByteArray)) (v7 : Int) (v9 : Int) (h0 : List Int) (h1 : List ByteArray) : Env := [(0, PV.a (Atom.sl (Ty.sl Ty.str) x0)), (3, PV.a (Atom.osl 0 Option.none)), (6, PV.a (Atom.osl 1 Option.none)), (7, PV.a (Atom.val (Value.int IntKind.i64 v7))), (8, PV.a (Atom.val (Value.string v8))), (9, PV.a (Atom.val (Value.int IntKind.i64 v9))), (10, PV.a (Atom.val (Value.int IntKind.i64 v10)))]
def L16_22 (v8 : ByteArray) (v10 : Int) (x0 : List (List ByteArray)) (v7 : Int) (v9 : Int) (h0 : List Int) (h1 : List ByteArray) : Heap := [Option.some (Arr.mk (Ty.int IntKind.i64) h0 Bool.false Option.none Option.none), Option.some (Arr.mk Ty.str h1 Bool.false Option.none Option.none)]
def E16_25 (x0 : List (List ByteArray)) (v7 : Int) (v8 : ByteArray) (h0 : List Int) (h1 : List ByteArray) : Env := [(0, PV.a (Atom.sl (Ty.sl Ty.str) x0)), (3, PV.a (Atom.osl 0 Option.none)), (6, PV.a (Atom.osl 1 Option.none)), (7, PV.a (Atom.val (Value.int IntKind.i64 v7))), (8, PV.a (Atom.val (Value.string v8)))]
def L16_25 (x0 : List (List ByteArray)) (v7 : Int) (v8 : ByteArray) (h0 : List Int) (h1 : List ByteArray) : Heap := [Option.some (Arr.mk (Ty.int IntKind.i64) h0 Bool.false Option.none Option.none), Option.some (Arr.mk Ty.str h1 Bool.false Option.none Option.none)]
mutual
def R16 : Nat → List (List ByteArray) → List Dyn → Prop
  | 0, _, _ => False
  | n + 1, x0, ds => (R16_3 n (0) ([0, 0, 0, 0, 0, 0, 0, 0, 0, 0, 0, 0]) (x0) ds)
def R16_3 : Nat → Int → List Int → List (List ByteArray) → List Dyn → Prop
  | 0, _, _, _, _ => False
  | n + 1, v4, h0, x0, ds => (if (Decidable.decide (v4 < (↑(List.length x0) : Int))) = true then (R16_6 n (0) (h0) (x0) (v4) ds) else (R16_12 n (0) ([]) (x0) (h0) ds))
def R16_6 : Nat → Int → List Int → List (List ByteArray) → Int → List Dyn → Prop
  | 0, _, _, _, _, _ => False
  | n + 1, v5, h0, x0, v4, ds => ((0 ≤ v4) ∧ (v4 < (↑(List.length x0) : Int)) ∧ (if (Decidable.decide (v5 < (↑(List.length (List.getD x0 (Int.toNat v4) [])) : Int))) = true then ((0 ≤ v4) ∧ (v4 < (↑(List.length x0) : Int)) ∧ ((0 ≤ v5) ∧ (v5 < (↑(List.length (List.getD x0 (Int.toNat v4) [])) : Int)) ∧ ((0 ≤ v5) ∧ (v5 < (↑(List.length h0) : Int)) ∧ (if (Decidable.decide ((↑(ByteArray.size (List.getD (List.getD x0 (Int.toNat v4) []) (Int.toNat v5) ByteArray.empty)) : Int) > List.getD h0 (Int.toNat v5) 0)) = true then ((0 ≤ v4) ∧ (v4 < (↑(List.length x0) : Int)) ∧ ((0 ≤ v5) ∧ (v5 < (↑(List.length (List.getD x0 (Int.toNat v4) [])) : Int)) ∧ ((0 ≤ v5) ∧ (v5 < (↑(List.length h0) : Int)) ∧ ((InR IntKind.i64 (v5 + 1)) ∧ (R16_6 n (v5 + 1) (List.set h0 (Int.toNat v5) (↑(ByteArray.size (List.getD (List.getD x0 (Int.toNat v4) []) (Int.toNat v5) ByteArray.empty)) : Int)) (x0) (v4) ds))))) else ((InR IntKind.i64 (v5 + 1)) ∧ (R16_6 n (v5 + 1) (h0) (x0) (v4) ds)))))) else ((InR IntKind.i64 (v4 + 1)) ∧ (R16_3 n (v4 + 1) (h0) (x0) ds))))
def R16_12 : Nat → Int → List ByteArray → List (List ByteArray) → List Int → List Dyn → Prop
  | 0, _, _, _, _, _ => False
  | n + 1, v7, h1, x0, h0, ds => (if (Decidable.decide (v7 < (↑(List.length x0) : Int))) = true then (R16_16 n (ByteArray.mk #[]) (0) (x0) (v7) (h0) (h1) ds) else (ds = [Dyn.mk (Ty.sl Ty.str) h1]))
def R16_16 : Nat → ByteArray → Int → List (List ByteArray) → Int → List Int → List ByteArray → List Dyn → Prop
  | 0, _, _, _, _, _, _, _ => False
  | n + 1, v8, v9, x0, v7, h0, h1, ds => ((0 ≤ v7) ∧ (v7 < (↑(List.length x0) : Int)) ∧ (if (Decidable.decide (v9 < (↑(List.length (List.getD x0 (Int.toNat v7) [])) : Int))) = true then (if (Decidable.decide (v9 > 0)) = true then ((ByteArray.size v8 + 2 ≤ 9223372036854775807) ∧ ((0 ≤ v7) ∧ (v7 < (↑(List.length x0) : Int)) ∧ ((0 ≤ v9) ∧ (v9 < (↑(List.length (List.getD x0 (Int.toNat v7) [])) : Int)) ∧ ((ByteArray.size (v8 ++ ByteArray.mk #[32, 32]) + ByteArray.size (List.getD (List.getD x0 (Int.toNat v7) []) (Int.toNat v9) ByteArray.empty) ≤ 9223372036854775807) ∧ ((0 ≤ v7) ∧ (v7 < (↑(List.length x0) : Int)) ∧ ((0 ≤ v9) ∧ (v9 < (↑(List.length (List.getD x0 (Int.toNat v7) [])) : Int)) ∧ (R16_22 n (v8 ++ ByteArray.mk #[32, 32] ++ List.getD (List.getD x0 (Int.toNat v7) []) (Int.toNat v9) ByteArray.empty) ((↑(ByteArray.size (List.getD (List.getD x0 (Int.toNat v7) []) (Int.toNat v9) ByteArray.empty)) : Int)) (x0) (v7) (v9) (h0) (h1) ds))))))) else ((0 ≤ v7) ∧ (v7 < (↑(List.length x0) : Int)) ∧ ((0 ≤ v9) ∧ (v9 < (↑(List.length (List.getD x0 (Int.toNat v7) [])) : Int)) ∧ ((ByteArray.size v8 + ByteArray.size (List.getD (List.getD x0 (Int.toNat v7) []) (Int.toNat v9) ByteArray.empty) ≤ 9223372036854775807) ∧ ((0 ≤ v7) ∧ (v7 < (↑(List.length x0) : Int)) ∧ ((0 ≤ v9) ∧ (v9 < (↑(List.length (List.getD x0 (Int.toNat v7) [])) : Int)) ∧ (R16_22 n (v8 ++ List.getD (List.getD x0 (Int.toNat v7) []) (Int.toNat v9) ByteArray.empty) ((↑(ByteArray.size (List.getD (List.getD x0 (Int.toNat v7) []) (Int.toNat v9) ByteArray.empty)) : Int)) (x0) (v7) (v9) (h0) (h1) ds))))))) else (R16_25 n (x0) (v7) (v8) (h0) (h1) ds)))
def R16_22 : Nat → ByteArray → Int → List (List ByteArray) → Int → Int → List Int → List ByteArray → List Dyn → Prop
  | 0, _, _, _, _, _, _, _, _ => False
  | n + 1, v8, v10, x0, v7, v9, h0, h1, ds => ((0 ≤ v9) ∧ (v9 < (↑(List.length h0) : Int)) ∧ (if (Decidable.decide (v10 < List.getD h0 (Int.toNat v9) 0)) = true then ((ByteArray.size v8 + 1 ≤ 9223372036854775807) ∧ ((InR IntKind.i64 (v10 + 1)) ∧ (R16_22 n (v8 ++ ByteArray.mk #[32]) (v10 + 1) (x0) (v7) (v9) (h0) (h1) ds))) else ((InR IntKind.i64 (v9 + 1)) ∧ (R16_16 n (v8) (v9 + 1) (x0) (v7) (h0) (h1) ds))))
def R16_25 : Nat → List (List ByteArray) → Int → ByteArray → List Int → List ByteArray → List Dyn → Prop
  | 0, _, _, _, _, _, _ => False
  | n + 1, x0, v7, v8, h0, h1, ds => (if (Decidable.decide ((↑(ByteArray.size v8) : Int) > 0)) = true then ((InR IntKind.i64 ((↑(ByteArray.size v8) : Int) - 1)) ∧ ((0 ≤ (↑(ByteArray.size v8) : Int) - 1) ∧ ((↑(ByteArray.size v8) : Int) - 1 < (↑(ByteArray.size v8) : Int)) ∧ (if ((↑(UInt8.toNat (List.getD (Array.toList (ByteArray.data v8)) (Int.toNat ((↑(ByteArray.size v8) : Int) - 1)) 0)) : Int) == 32) = true then ((InR IntKind.i64 ((↑(ByteArray.size v8) : Int) - 1)) ∧ ((0 ≤ (↑(ByteArray.size v8) : Int) - 1) ∧ ((↑(ByteArray.size v8) : Int) - 1 ≤ (↑(ByteArray.size v8) : Int)) ∧ (R16_25 n (x0) (v7) (ByteArray.extract v8 0 (Int.toNat ((↑(ByteArray.size v8) : Int) - 1))) (h0) (h1) ds))) else (((List.length h1 + 1) * 16 ≤ 140737488355328) ∧ ((InR IntKind.i64 (v7 + 1)) ∧ (R16_12 n (v7 + 1) (h1 ++ [v8]) (x0) (h0) ds)))))) else (((List.length h1 + 1) * 16 ≤ 140737488355328) ∧ ((InR IntKind.i64 (v7 + 1)) ∧ (R16_12 n (v7 + 1) (h1 ++ [v8]) (x0) (h0) ds))))
end
theorem snd16 : ∀ n, (∀ (x0 : List (List ByteArray)) ds, R16 n x0 ds → ∀ K q, AtV Tryd.prog 16 (PostR kds16 oks16 ds [] [] q K) 119 K q [] [.code b16] (entE 0 0 sig16 (x0, ())) (entL sig16 (x0, ()))) ∧ (∀ (v4 : Int) (h0 : List Int) (x0 : List (List ByteArray)) ds, R16_3 n v4 h0 x0 ds → ∀ K q, AtV Tryd.prog 16 (PostR kds16 oks16 ds [] [] q K) 119 K q [] (cutAt b16 3) (E16_3 v4 h0 x0) (L16_3 v4 h0 x0)) ∧ (∀ (v5 : Int) (h0 : List Int) (x0 : List (List ByteArray)) (v4 : Int) ds, R16_6 n v5 h0 x0 v4 ds → ∀ K q, AtV Tryd.prog 16 (PostR kds16 oks16 ds [] [] q K) 119 K q [] (cutAt b16 6) (E16_6 v5 h0 x0 v4) (L16_6 v5 h0 x0 v4)) ∧ (∀ (v7 : Int) (h1 : List ByteArray) (x0 : List (List ByteArray)) (h0 : List Int) ds, R16_12 n v7 h1 x0 h0 ds → ∀ K q, AtV Tryd.prog 16 (PostR kds16 oks16 ds [] [] q K) 119 K q [] (cutAt b16 12) (E16_12 v7 h1 x0 h0) (L16_12 v7 h1 x0 h0)) ∧ (∀ (v8 : ByteArray) (v9 : Int) (x0 : List (List ByteArray)) (v7 : Int) (h0 : List Int) (h1 : List ByteArray) ds, R16_16 n v8 v9 x0 v7 h0 h1 ds → ∀ K q, AtV Tryd.prog 16 (PostR kds16 oks16 ds [] [] q K) 119 K q [] (cutAt b16 16) (E16_16 v8 v9 x0 v7 h0 h1) (L16_16 v8 v9 x0 v7 h0 h1)) ∧ (∀ (v8 : ByteArray) (v10 : Int) (x0 : List (List ByteArray)) (v7 : Int) (v9 : Int) (h0 : List Int) (h1 : List ByteArray) ds, R16_22 n v8 v10 x0 v7 v9 h0 h1 ds → ∀ K q, AtV Tryd.prog 16 (PostR kds16 oks16 ds [] [] q K) 119 K q [] (cutAt b16 22) (E16_22 v8 v10 x0 v7 v9 h0 h1) (L16_22 v8 v10 x0 v7 v9 h0 h1)) ∧ (∀ (x0 : List (List ByteArray)) (v7 : Int) (v8 : ByteArray) (h0 : List Int) (h1 : List ByteArray) ds, R16_25 n x0 v7 v8 h0 h1 ds → ∀ K q, AtV Tryd.prog 16 (PostR kds16 oks16 ds [] [] q K) 119 K q [] (cutAt b16 25) (E16_25 x0 v7 v8 h0 h1) (L16_25 x0 v7 v8 h0 h1)) := by
  intro n
  induction n with
  | zero => exact ⟨fun _ _ h => by simp only [R16] at h, fun _ _ _ _ h => by simp only [R16_3] at h, fun _ _ _ _ _ h => by simp only [R16_6] at h, fun _ _ _ _ _ h => by simp only [R16_12] at h, fun _ _ _ _ _ _ _ h => by simp only [R16_16] at h, fun _ _ _ _ _ _ _ _ h => by simp only [R16_22] at h, fun _ _ _ _ _ _ h => by simp only [R16_25] at h⟩
  | succ n ih =>
  obtain ⟨ih, ih3, ih6, ih12, ih16, ih22, ih25⟩ := ih
  refine ⟨?_, ?_, ?_, ?_, ?_, ?_, ?_⟩
  · intro x0 ds h K q
    rw [R16] at h
    exact AtV.go tabOk ext16Ok mixed false [] [] [0, 3, 4] [0] [] (a1 ((by decide) : (0 : Int) ≤ (12 : Int)) (a1 ((by decide) : (12 : Int) ≤ (12 : Int)) (a1 ((by decide) : (96 : Int) ≤ (281474976710656 : Int)) trivial))) (ih3 _ _ _ _ h K q) (by kernel_rfl)

  · intro v4 h0 x0 ds h K q
    rw [R16_3] at h
    by_cases b0 : (Decidable.decide (v4 < (↑(List.length x0) : Int))) = true
    · rw [if_pos b0] at h
      exact AtV.go tabOk ext16Ok mixed false [] [] [0, 3, 4, 5] [0] [true] (a1 b0 trivial) (ih6 _ _ _ _ _ h K q) (by kernel_rfl)
    · rw [if_neg b0] at h
      replace b0 := Bool.eq_false_iff.2 b0
      exact AtV.go tabOk ext16Ok mixed false [] [] [0, 3, 6, 7] [0, 1] [false] (a1 b0 trivial) (ih12 _ _ _ _ _ h K q) (by kernel_rfl)

  · intro v5 h0 x0 v4 ds h K q
    rw [R16_6] at h
    obtain ⟨s0, s1, h⟩ := h
    by_cases b0 : (Decidable.decide (v5 < (↑(List.length (List.getD x0 (Int.toNat v4) [])) : Int))) = true
    · rw [if_pos b0] at h
      obtain ⟨s2, s3, h⟩ := h
      obtain ⟨s4, s5, h⟩ := h
      obtain ⟨s6, s7, h⟩ := h
      by_cases b1 : (Decidable.decide ((↑(ByteArray.size (List.getD (List.getD x0 (Int.toNat v4) []) (Int.toNat v5) ByteArray.empty)) : Int) > List.getD h0 (Int.toNat v5) 0)) = true
      · rw [if_pos b1] at h
        obtain ⟨s8, s9, h⟩ := h
        obtain ⟨s10, s11, h⟩ := h
        obtain ⟨s12, s13, h⟩ := h
        obtain ⟨s14, h⟩ := h
        exact AtV.go tabOk ext16Ok mixed false [] [] [0, 3, 4, 5] [0] [true, true] (a1 s0 (a1 s1 (a1 b0 (a1 s2 (a1 s3 (a1 s4 (a1 s5 (a1 s6 (a1 s7 (a1 b1 (a1 s8 (a1 s9 (a1 s10 (a1 s11 (a1 s12 (a1 s13 (a1 s14 trivial))))))))))))))))) (ih6 _ _ _ _ _ h K q) (by kernel_rfl)
      · rw [if_neg b1] at h
        replace b1 := Bool.eq_false_iff.2 b1
        obtain ⟨s8, h⟩ := h
        exact AtV.go tabOk ext16Ok mixed false [] [] [0, 3, 4, 5] [0] [true, false] (a1 s0 (a1 s1 (a1 b0 (a1 s2 (a1 s3 (a1 s4 (a1 s5 (a1 s6 (a1 s7 (a1 b1 (a1 s8 trivial))))))))))) (ih6 _ _ _ _ _ h K q) (by kernel_rfl)
    · rw [if_neg b0] at h
      replace b0 := Bool.eq_false_iff.2 b0
      obtain ⟨s2, h⟩ := h
      exact AtV.go tabOk ext16Ok mixed false [] [] [0, 3, 4] [0] [false] (a1 s0 (a1 s1 (a1 b0 (a1 s2 trivial)))) (ih3 _ _ _ _ h K q) (by kernel_rfl)

  · intro v7 h1 x0 h0 ds h K q
    rw [R16_12] at h
    by_cases b0 : (Decidable.decide (v7 < (↑(List.length x0) : Int))) = true
    · rw [if_pos b0] at h
      exact AtV.go tabOk ext16Ok mixed false [] [] [0, 3, 6, 7, 8, 9] [0, 1] [true] (a1 b0 trivial) (ih16 _ _ _ _ _ _ _ h K q) (by kernel_rfl)
    · rw [if_neg b0] at h
      replace b0 := Bool.eq_false_iff.2 b0
      subst h
      exact AtV.ret Tryd.func16 tabOk ext16Ok mixed false [] tys16 [false] (a1 b0 trivial) (by kernel_rfl)

  · intro v8 v9 x0 v7 h0 h1 ds h K q
    rw [R16_16] at h
    obtain ⟨s0, s1, h⟩ := h
    by_cases b0 : (Decidable.decide (v9 < (↑(List.length (List.getD x0 (Int.toNat v7) [])) : Int))) = true
    · rw [if_pos b0] at h
      by_cases b1 : (Decidable.decide (v9 > 0)) = true
      · rw [if_pos b1] at h
        obtain ⟨s2, h⟩ := h
        obtain ⟨s3, s4, h⟩ := h
        obtain ⟨s5, s6, h⟩ := h
        obtain ⟨s7, h⟩ := h
        obtain ⟨s8, s9, h⟩ := h
        obtain ⟨s10, s11, h⟩ := h
        exact AtV.go tabOk ext16Ok mixed false [] [] [0, 3, 6, 7, 8, 9, 10] [0, 1] [true, true] (a1 s0 (a1 s1 (a1 b0 (a1 b1 (a1 s2 (a1 s3 (a1 s4 (a1 s5 (a1 s6 (a1 s7 (a1 s8 (a1 s9 (a1 s10 (a1 s11 trivial)))))))))))))) (ih22 _ _ _ _ _ _ _ _ h K q) (by kernel_rfl)
      · rw [if_neg b1] at h
        replace b1 := Bool.eq_false_iff.2 b1
        obtain ⟨s2, s3, h⟩ := h
        obtain ⟨s4, s5, h⟩ := h
        obtain ⟨s6, h⟩ := h
        obtain ⟨s7, s8, h⟩ := h
        obtain ⟨s9, s10, h⟩ := h
        exact AtV.go tabOk ext16Ok mixed false [] [] [0, 3, 6, 7, 8, 9, 10] [0, 1] [true, false] (a1 s0 (a1 s1 (a1 b0 (a1 b1 (a1 s2 (a1 s3 (a1 s4 (a1 s5 (a1 s6 (a1 s7 (a1 s8 (a1 s9 (a1 s10 trivial))))))))))))) (ih22 _ _ _ _ _ _ _ _ h K q) (by kernel_rfl)
    · rw [if_neg b0] at h
      replace b0 := Bool.eq_false_iff.2 b0
      exact AtV.go tabOk ext16Ok mixed false [] [] [0, 3, 6, 7, 8] [0, 1] [false] (a1 s0 (a1 s1 (a1 b0 trivial))) (ih25 _ _ _ _ _ _ h K q) (by kernel_rfl)

  · intro v8 v10 x0 v7 v9 h0 h1 ds h K q
    rw [R16_22] at h
    obtain ⟨s0, s1, h⟩ := h
    by_cases b0 : (Decidable.decide (v10 < List.getD h0 (Int.toNat v9) 0)) = true
    · rw [if_pos b0] at h
      obtain ⟨s2, h⟩ := h
      obtain ⟨s3, h⟩ := h
      exact AtV.go tabOk ext16Ok mixed false [] [] [0, 3, 6, 7, 8, 9, 10] [0, 1] [true] (a1 s0 (a1 s1 (a1 b0 (a1 s2 (a1 s3 trivial))))) (ih22 _ _ _ _ _ _ _ _ h K q) (by kernel_rfl)
    · rw [if_neg b0] at h
      replace b0 := Bool.eq_false_iff.2 b0
      obtain ⟨s2, h⟩ := h
      exact AtV.go tabOk ext16Ok mixed false [] [] [0, 3, 6, 7, 8, 9] [0, 1] [false] (a1 s0 (a1 s1 (a1 b0 (a1 s2 trivial)))) (ih16 _ _ _ _ _ _ _ h K q) (by kernel_rfl)

  · intro x0 v7 v8 h0 h1 ds h K q
    rw [R16_25] at h
    by_cases b0 : (Decidable.decide ((↑(ByteArray.size v8) : Int) > 0)) = true
    · rw [if_pos b0] at h
      obtain ⟨s0, h⟩ := h
      obtain ⟨s1, s2, h⟩ := h
      by_cases b1 : ((↑(UInt8.toNat (List.getD (Array.toList (ByteArray.data v8)) (Int.toNat ((↑(ByteArray.size v8) : Int) - 1)) 0)) : Int) == 32) = true
      · rw [if_pos b1] at h
        obtain ⟨s3, h⟩ := h
        obtain ⟨s4, s5, h⟩ := h
        exact AtV.go tabOk ext16Ok mixed false [] [] [0, 3, 6, 7, 8] [0, 1] [true, true] (a1 b0 (a1 s0 (a1 s1 (a1 s2 (a1 b1 (a1 s3 (a1 s4 (a1 s5 trivial)))))))) (ih25 _ _ _ _ _ _ h K q) (by kernel_rfl)
      · rw [if_neg b1] at h
        replace b1 := Bool.eq_false_iff.2 b1
        obtain ⟨s3, h⟩ := h
        obtain ⟨s4, h⟩ := h
        exact AtV.go tabOk ext16Ok mixed false [] [] [0, 3, 6, 7] [0, 1] [true, false] (a1 b0 (a1 s0 (a1 s1 (a1 s2 (a1 b1 (a1 s3 (a1 s4 trivial))))))) (ih12 _ _ _ _ _ h K q) (by kernel_rfl)
    · rw [if_neg b0] at h
      replace b0 := Bool.eq_false_iff.2 b0
      obtain ⟨s0, h⟩ := h
      obtain ⟨s1, h⟩ := h
      exact AtV.go tabOk ext16Ok mixed false [] [] [0, 3, 6, 7] [0, 1] [false, false] (a1 b0 (a1 (rfl : Bool.false = Bool.false) (a1 s0 (a1 s1 trivial)))) (ih12 _ _ _ _ _ h K q) (by kernel_rfl)



def row16 : Nat → List ByteArray → List Int → List Int
  | _, [], h => h
  | k, c :: r, h => row16 (k + 1) r (if ((c.size : Nat) : Int) > h.getD k 0 then h.set k (c.size : Nat) else h)

def spc16 (n : Nat) : List UInt8 := List.replicate n 32
def ln16 : Nat → List ByteArray → List Int → List UInt8 → List UInt8
  | _, [], _, v => v
  | k, c :: r, h, v => ln16 (k + 1) r h ((v ++ (if k > 0 then [32, 32] else []) ++ c.data.toList) ++ spc16 (h.getD k 0 - (c.size : Nat)).toNat)

def line16 (h : List Int) (r : List ByteArray) : ByteArray := ⟨(Lib.trimRightB (ln16 0 r h []) 32).toArray⟩
def wide16 (x0 : List (List ByteArray)) : List Int := x0.foldl (fun h r => row16 0 r h) [0, 0, 0, 0, 0, 0, 0, 0, 0, 0, 0, 0]
def g16_0 (x0 : List (List ByteArray)) : List ByteArray := x0.map (line16 (wide16 x0))
def P16 (x0 : List (List ByteArray)) : Prop := x0.length ≤ 1100000 ∧ ∀ r ∈ x0, r.length ≤ 12 ∧ ∀ c ∈ r, c.size ≤ 4000000

def Wid16 (h : List Int) : Prop := h.length = 12 ∧ ∀ c ∈ h, 0 ≤ c ∧ c ≤ 4000000

theorem wget16 {h : List Int} (hw : Wid16 h) (k : Nat) : 0 ≤ h.getD k 0 ∧ h.getD k 0 ≤ 4000000 := by
  by_cases hk : k < h.length
  · exact hw.2 _ (mem_getD h k 0 hk)
  · rw [List.getD_eq_getElem?_getD, List.getElem?_eq_none (by omega)]
    exact ⟨Int.le_refl _, by decide⟩

theorem wset16 {h : List Int} (hw : Wid16 h) (k : Nat) {c : ByteArray} (hc : c.size ≤ 4000000) : Wid16 (if ((c.size : Nat) : Int) > h.getD k 0 then h.set k (c.size : Nat) else h) := by
  split
  · refine ⟨by rw [List.length_set]; exact hw.1, fun y hy => ?_⟩
    rcases List.mem_or_eq_of_mem_set hy with hy | rfl
    · exact hw.2 y hy
    · omega
  · exact hw

theorem wrow16 : ∀ (r : List ByteArray) (k : Nat) (h : List Int), Wid16 h → (∀ c ∈ r, c.size ≤ 4000000) → Wid16 (row16 k r h)
  | [], _, _, hw, _ => hw
  | c :: r, k, h, hw, hc => wrow16 r (k + 1) _ (wset16 hw k (hc c (List.mem_cons_self ..))) (fun d hd => hc d (List.mem_cons_of_mem _ hd))

theorem tr16 (v : ByteArray) (h : 0 < v.size) (hl : v.data.toList.getD (v.size - 1) 0 = 32) : Lib.trimRightB (ByteArray.extract v 0 (v.size - 1)).data.toList 32 = Lib.trimRightB v.data.toList 32 := by
  obtain ⟨⟨l⟩⟩ := v
  have hs : (ByteArray.mk ⟨l⟩).size = l.length := rfl
  rw [hs] at *
  have e : (ByteArray.extract ⟨⟨l⟩⟩ 0 (l.length - 1)).data.toList = l.dropLast := by
    rw [ByteArray.data_extract]
    simp [List.dropLast_eq_take]
  rw [e]
  have h' : 0 < l.length := h
  have hne : l ≠ [] := fun hn => by rw [hn] at h; exact absurd h (by decide)
  have hd : l = l.dropLast ++ [32] := by
    have h1 := List.dropLast_concat_getLast hne
    have h2 : l.getLast hne = 32 := by
      rw [List.getLast_eq_getElem]
      have : l.getD (l.length - 1) 0 = 32 := hl
      rwa [getD_lt l _ 0 (by omega)] at this
    rw [h2] at h1
    exact h1.symm
  show Lib.trimRightB l.dropLast 32 = Lib.trimRightB l 32
  conv => rhs; rw [hd]
  unfold Lib.trimRightB
  rw [List.reverse_append, List.reverse_singleton, List.singleton_append, List.dropWhile_cons, if_pos (by decide)]

theorem trn16 (v : ByteArray) (hl : 0 < v.size → v.data.toList.getD (v.size - 1) 0 ≠ 32) : (⟨(Lib.trimRightB v.data.toList 32).toArray⟩ : ByteArray) = v := by
  obtain ⟨⟨l⟩⟩ := v
  have hs : (ByteArray.mk ⟨l⟩).size = l.length := rfl
  rw [hs] at hl
  congr 2
  show Lib.trimRightB l 32 = l
  rcases List.eq_nil_or_concat l with rfl | ⟨a, b, hab⟩
  · rfl
  · rw [List.concat_eq_append] at hab
    subst hab
    have hb : b ≠ 32 := by
      have := hl (by simp)
      have e : (a ++ [b]).length - 1 = a.length := by simp
      have e2 : List.getD (a ++ [b]) ((a ++ [b]).length - 1) 0 = b := by rw [e]; simp [List.getD_eq_getElem?_getD]
      exact fun h => this (e2.trans h)
    unfold Lib.trimRightB
    simp [List.reverse_append, List.dropWhile_cons, hb]

section
variable {x0 : List (List ByteArray)} {ds : List Dyn}

theorem l2516 {v7 : Nat} {h0 : List Int} {h1 : List ByteArray} (hv : v7 < 1100000) (hl : h1.length ≤ 1100000) : ∀ (m : Nat) (v8 : ByteArray), v8.size = m → v8.size ≤ 100000000 → (∃ n, R16_12 n ((v7 : Int) + 1) (h1 ++ [⟨(Lib.trimRightB v8.data.toList 32).toArray⟩]) x0 h0 ds) → ∃ n, R16_25 n x0 (v7 : Int) v8 h0 h1 ds := by
  intro m
  induction m with
  | zero =>
    intro v8 hm _ ⟨n, hn⟩
    refine ⟨n + 1, ?_⟩
    rw [R16_25, if_neg (by simp only [decide_eq_true_eq]; omega)]
    rw [trn16 v8 (fun h => by omega)] at hn
    exact ⟨by omega, by rw [i64_iff]; omega, hn⟩
  | succ m ih =>
    intro v8 hm hb ⟨n, hn⟩
    have e1 : (((v8.size : Nat) : Int) - 1).toNat = v8.size - 1 := by omega
    by_cases hc : v8.data.toList.getD (v8.size - 1) 0 = 32
    · obtain ⟨n', hn'⟩ := ih (ByteArray.extract v8 0 (v8.size - 1)) (by rw [ByteArray.size_extract]; omega) (by rw [ByteArray.size_extract]; omega) ⟨n, by rw [tr16 v8 (by omega) hc]; exact hn⟩
      refine ⟨n' + 1, ?_⟩
      rw [R16_25, if_pos (by simp only [decide_eq_true_eq]; omega)]
      simp only [e1]
      refine ⟨by rw [i64_iff]; omega, by omega, by omega, ?_⟩
      rw [if_pos (by rw [hc]; rfl)]
      exact ⟨by rw [i64_iff]; omega, by omega, by omega, hn'⟩
    · refine ⟨n + 1, ?_⟩
      rw [R16_25, if_pos (by simp only [decide_eq_true_eq]; omega)]
      simp only [e1]
      refine ⟨by rw [i64_iff]; omega, by omega, by omega, ?_⟩
      rw [if_neg (fun h => hc (by
        have h : ((v8.data.toList.getD (v8.size - 1) 0).toNat : Int) = 32 := by simpa using h
        exact UInt8.toNat_inj.1 (by show _ = 32; omega)))]
      rw [trn16 v8 (fun _ => hc)] at hn
      exact ⟨by omega, by rw [i64_iff]; omega, hn⟩

theorem l2216 {v7 v9 : Nat} {h0 : List Int} {h1 : List ByteArray} (hw : Wid16 h0) (h9 : v9 < 12) : ∀ (k : Nat) (v8 : ByteArray) (v10 : Int), k = (h0.getD v9 0 - v10).toNat → 0 ≤ v10 → v8.size + k ≤ 100000000 → v10 ≤ 4000000 →
    (∃ n, R16_16 n ⟨(v8.data.toList ++ spc16 k).toArray⟩ ((v9 : Int) + 1) x0 (v7 : Int) h0 h1 ds) → ∃ n, R16_22 n v8 v10 x0 (v7 : Int) (v9 : Int) h0 h1 ds := by
  have hg := wget16 hw v9
  intro k
  induction k with
  | zero =>
    intro v8 v10 hk h10 hs hv ⟨n, hn⟩
    refine ⟨n + 1, ?_⟩
    have e : (⟨(v8.data.toList ++ spc16 0).toArray⟩ : ByteArray) = v8 := by simp [spc16]
    rw [e] at hn
    rw [R16_22]
    simp only [Int.toNat_natCast]
    refine ⟨by omega, by rw [hw.1]; omega, ?_⟩
    rw [if_neg (by simp only [decide_eq_true_eq]; omega)]
    exact ⟨by rw [i64_iff]; omega, hn⟩
  | succ k ih =>
    intro v8 v10 hk h10 hs hv ⟨n, hn⟩
    have s1 : (ByteArray.mk #[32]).size = 1 := rfl
    have e : (⟨((v8 ++ ByteArray.mk #[32]).data.toList ++ spc16 k).toArray⟩ : ByteArray) = ⟨(v8.data.toList ++ spc16 (k + 1)).toArray⟩ := by
      congr 2
      rw [ByteArray.data_append]
      simp [spc16, List.replicate_succ]
    obtain ⟨n', hn'⟩ := ih (v8 ++ ByteArray.mk #[32]) (v10 + 1) (by omega) (by omega) (by rw [ByteArray.size_append, s1]; omega) (by omega) ⟨n, by rw [e]; exact hn⟩
    refine ⟨n' + 1, ?_⟩
    rw [R16_22]
    simp only [Int.toNat_natCast]
    refine ⟨by omega, by rw [hw.1]; omega, ?_⟩
    rw [if_pos (by simp only [decide_eq_true_eq]; omega)]
    exact ⟨by omega, by rw [i64_iff]; omega, hn'⟩

theorem l1616 {v7 : Nat} {h0 : List Int} {h1 : List ByteArray} (hw : Wid16 h0) (h7 : v7 < x0.length) (hr : (x0.getD v7 []).length ≤ 12) (hc : ∀ c ∈ x0.getD v7 [], c.size ≤ 4000000) (hv : v7 < 1100000) (hl : h1.length ≤ 1100000) :
    ∀ (k v9 : Nat) (v8 : ByteArray), v9 + k = (x0.getD v7 []).length → v8.size ≤ v9 * 4000002 → (∃ n, R16_12 n ((v7 : Int) + 1) (h1 ++ [⟨(Lib.trimRightB (ln16 v9 ((x0.getD v7 []).drop v9) h0 v8.data.toList) 32).toArray⟩]) x0 h0 ds) → ∃ n, R16_16 n v8 (v9 : Int) x0 (v7 : Int) h0 h1 ds := by
  intro k
  induction k with
  | zero =>
    intro v9 v8 hk hs hn
    rw [drop_end _ v9 (by omega)] at hn
    obtain ⟨n, hn⟩ := l2516 (v8 := v8) hv hl _ rfl (by omega) hn
    refine ⟨n + 1, ?_⟩
    rw [R16_16]
    simp only [Int.toNat_natCast]
    refine ⟨by omega, by omega, ?_⟩
    rw [if_neg (by simp only [decide_eq_true_eq]; omega)]
    exact hn
  | succ k ih =>
    intro v9 v8 hk hs hn
    have h9 : v9 < (x0.getD v7 []).length := by omega
    have hcell := hc _ (mem_getD (x0.getD v7 []) v9 ByteArray.empty h9)
    have hg := wget16 hw v9
    have s2 : (ByteArray.mk #[32, 32]).size = 2 := rfl
    have z : ∀ l : List UInt8, (ByteArray.mk l.toArray).size = l.length := fun l => List.size_toArray
    rw [drop_get _ v9 ByteArray.empty h9] at hn
    simp only [ln16] at hn
    generalize hcl : (x0.getD v7 []).getD v9 ByteArray.empty = c at *
    have hcs : c.data.toList.length = c.size := rfl
    have hv8 : v8.data.toList.length = v8.size := rfl
    by_cases h0' : v9 > 0
    · rw [if_pos h0'] at hn
      have e : (⟨((v8 ++ ByteArray.mk #[32, 32] ++ c).data.toList ++ spc16 (h0.getD v9 0 - (c.size : Nat)).toNat).toArray⟩ : ByteArray).data.toList = (v8.data.toList ++ [32, 32] ++ c.data.toList) ++ spc16 (h0.getD v9 0 - (c.size : Nat)).toNat := by
        simp [ByteArray.data_append]
      obtain ⟨n, hn⟩ := l2216 (x0 := x0) (ds := ds) (v7 := v7) (h1 := h1) hw (by omega) _ (v8 ++ ByteArray.mk #[32, 32] ++ c) ((c.size : Nat) : Int) rfl (by omega) (by rw [ByteArray.size_append, ByteArray.size_append, s2]; omega) (by omega) (ih (v9 + 1) _ (by omega) (by rw [z]; simp only [List.length_append, spc16, List.length_replicate, ByteArray.data_append, Array.toList_append, hcs, hv8]; have : ([32, 32] : List UInt8).length = 2 := rfl; show _ + _ + _ + _ ≤ _; simp only [List.length_cons, List.length_nil]; omega) (by rw [e]; exact hn))
      refine ⟨n + 1, ?_⟩
      rw [R16_16]
      simp only [Int.toNat_natCast, hcl]
      refine ⟨by omega, by omega, ?_⟩
      rw [if_pos (by simp only [decide_eq_true_eq]; omega), if_pos (by simp only [decide_eq_true_eq]; omega)]
      exact ⟨by omega, by omega, by omega, by omega, by omega, by rw [ByteArray.size_append, s2]; omega, by omega, by omega, by omega, by omega, hn⟩
    · rw [if_neg h0'] at hn
      have e : (⟨((v8 ++ c).data.toList ++ spc16 (h0.getD v9 0 - (c.size : Nat)).toNat).toArray⟩ : ByteArray).data.toList = (v8.data.toList ++ [] ++ c.data.toList) ++ spc16 (h0.getD v9 0 - (c.size : Nat)).toNat := by
        simp [ByteArray.data_append]
      obtain ⟨n, hn⟩ := l2216 (x0 := x0) (ds := ds) (v7 := v7) (h1 := h1) hw (by omega) _ (v8 ++ c) ((c.size : Nat) : Int) rfl (by omega) (by rw [ByteArray.size_append]; omega) (by omega) (ih (v9 + 1) _ (by omega) (by rw [z]; simp only [List.length_append, spc16, List.length_replicate, ByteArray.data_append, Array.toList_append, hcs, hv8]; omega) (by rw [e]; exact hn))
      refine ⟨n + 1, ?_⟩
      rw [R16_16]
      simp only [Int.toNat_natCast, hcl]
      refine ⟨by omega, by omega, ?_⟩
      rw [if_pos (by simp only [decide_eq_true_eq]; omega), if_neg (by simp only [decide_eq_true_eq]; omega)]
      exact ⟨by omega, by omega, by omega, by omega, by omega, by omega, by omega, by omega, by omega, hn⟩

theorem l1216 {h0 : List Int} (hw : Wid16 h0) (hx : x0.length ≤ 1100000) (hr : ∀ r ∈ x0, r.length ≤ 12 ∧ ∀ c ∈ r, c.size ≤ 4000000) : ∀ (k v7 : Nat) (h1 : List ByteArray), v7 + k = x0.length → h1.length = v7 → ∃ n, R16_12 n (v7 : Int) h1 x0 h0 [⟨.sl .str, h1 ++ (x0.drop v7).map (line16 h0)⟩] := by
  intro k
  induction k with
  | zero =>
    intro v7 h1 hk hl
    refine ⟨1, ?_⟩
    rw [R16_12, if_neg (by simp only [decide_eq_true_eq]; omega), drop_end _ v7 (by omega)]
    simp
  | succ k ih =>
    intro v7 h1 hk hl
    have h7 : v7 < x0.length := by omega
    obtain ⟨r1, r2⟩ := hr _ (mem_getD x0 v7 [] h7)
    obtain ⟨n, hn⟩ := ih (v7 + 1) (h1 ++ [line16 h0 (x0.getD v7 [])]) (by omega) (by rw [List.length_append, hl]; rfl)
    have e : h1 ++ [line16 h0 (x0.getD v7 [])] ++ List.map (line16 h0) (x0.drop (v7 + 1)) = h1 ++ List.map (line16 h0) (x0.drop v7) := by
      rw [drop_get x0 v7 [] h7]; simp
    have e1 : (((v7 + 1 : Nat)) : Int) = (v7 : Int) + 1 := by omega
    rw [e, e1] at hn
    obtain ⟨n', hn'⟩ := l1616 (h1 := h1) (v7 := v7) hw h7 r1 r2 (by omega) (by omega) (x0.getD v7 []).length 0 ByteArray.empty (by omega) (Nat.zero_le _) ⟨n, hn⟩
    refine ⟨n' + 1, ?_⟩
    rw [R16_12, if_pos (by simp only [decide_eq_true_eq]; omega)]
    exact hn'

theorem l616 {v4 : Nat} (h4 : v4 < x0.length) (hr : (x0.getD v4 []).length ≤ 12) (hc : ∀ c ∈ x0.getD v4 [], c.size ≤ 4000000) (hv : v4 < 1100000) :
    ∀ (k v5 : Nat) (h0 : List Int), v5 + k = (x0.getD v4 []).length → Wid16 h0 → (∃ n, R16_3 n ((v4 : Int) + 1) (row16 v5 ((x0.getD v4 []).drop v5) h0) x0 ds) → ∃ n, R16_6 n (v5 : Int) h0 x0 (v4 : Int) ds := by
  intro k
  induction k with
  | zero =>
    intro v5 h0 hk hw ⟨n, hn⟩
    rw [drop_end _ v5 (by omega)] at hn
    refine ⟨n + 1, ?_⟩
    rw [R16_6]
    simp only [Int.toNat_natCast]
    refine ⟨by omega, by omega, ?_⟩
    rw [if_neg (by simp only [decide_eq_true_eq]; omega)]
    exact ⟨by rw [i64_iff]; omega, hn⟩
  | succ k ih =>
    intro v5 h0 hk hw hn
    have h5 : v5 < (x0.getD v4 []).length := by omega
    have hcell := hc _ (mem_getD (x0.getD v4 []) v5 ByteArray.empty h5)
    have hlen := hw.1
    rw [drop_get _ v5 ByteArray.empty h5] at hn
    simp only [row16] at hn
    have hw2 := wset16 hw v5 hcell
    obtain ⟨n, hn⟩ := ih (v5 + 1) _ (by omega) hw2 hn
    refine ⟨n + 1, ?_⟩
    rw [R16_6]
    simp only [Int.toNat_natCast]
    refine ⟨by omega, by omega, ?_⟩
    rw [if_pos (by simp only [decide_eq_true_eq]; omega)]
    refine ⟨by omega, by omega, by omega, by omega, by omega, by omega, ?_⟩
    by_cases hgt : ((((x0.getD v4 []).getD v5 ByteArray.empty).size : Nat) : Int) > h0.getD v5 0
    · rw [if_pos (by simpa using hgt)]
      rw [if_pos hgt] at hn
      exact ⟨by omega, by omega, by omega, by omega, by omega, by omega, by rw [i64_iff]; omega, hn⟩
    · rw [if_neg (by simpa using hgt)]
      rw [if_neg hgt] at hn
      exact ⟨by rw [i64_iff]; omega, hn⟩

theorem l316 (hx : x0.length ≤ 1100000) (hr : ∀ r ∈ x0, r.length ≤ 12 ∧ ∀ c ∈ r, c.size ≤ 4000000) : ∀ (k v4 : Nat) (h0 : List Int), v4 + k = x0.length → Wid16 h0 →
    ∃ n, R16_3 n (v4 : Int) h0 x0 [⟨.sl .str, x0.map (line16 ((x0.drop v4).foldl (fun h r => row16 0 r h) h0))⟩] := by
  intro k
  induction k with
  | zero =>
    intro v4 h0 hk hw
    obtain ⟨n, hn⟩ := l1216 (x0 := x0) hw hx hr x0.length 0 [] (by omega) rfl
    refine ⟨n + 1, ?_⟩
    rw [R16_3, if_neg (by simp only [decide_eq_true_eq]; omega), drop_end _ v4 (by omega)]
    simpa using hn
  | succ k ih =>
    intro v4 h0 hk hw
    have h4 : v4 < x0.length := by omega
    obtain ⟨r1, r2⟩ := hr _ (mem_getD x0 v4 [] h4)
    obtain ⟨n, hn⟩ := ih (v4 + 1) (row16 0 (x0.getD v4 []) h0) (by omega) (wrow16 _ 0 h0 hw r2)
    have e1 : (((v4 + 1 : Nat)) : Int) = (v4 : Int) + 1 := by omega
    rw [e1] at hn
    rw [drop_get x0 v4 [] h4, List.foldl_cons]
    obtain ⟨n', hn'⟩ := l616 (x0 := x0) h4 r1 r2 (by omega) (x0.getD v4 []).length 0 h0 (by omega) hw ⟨n, hn⟩
    refine ⟨n' + 1, ?_⟩
    rw [R16_3, if_pos (by simp only [decide_eq_true_eq]; omega)]
    exact hn'
end

theorem w016 : Wid16 [0, 0, 0, 0, 0, 0, 0, 0, 0, 0, 0, 0] := ⟨rfl, by decide⟩

theorem top16 (x0 : List (List ByteArray)) (h : P16 x0) : ∃ n, R16 n x0 [⟨.sl .str, g16_0 x0⟩] := by
  obtain ⟨n, hn⟩ := l316 h.1 h.2 x0.length 0 _ (by omega) w016
  refine ⟨n + 1, ?_⟩
  rw [R16]
  simpa [g16_0, wide16] using hn

def S16 : Am.Spec := { sig := sig16, pre := fun ⟨x0, _⟩ => P16 x0, res := fun ⟨x0, _⟩ => [⟨.sl .str, g16_0 x0⟩] }
theorem con16 : Contract Tryd.prog 16 S16 := contract_of Tryd.func16 hb16 (Nat.le_of_ble_eq_true (by kernel_rfl)) (fun ⟨x0, _⟩ h hwf K q =>
  let ⟨n, hn⟩ := top16 x0 h
  (snd16 n).1 x0 _ hn K q)

end
end Go.Proofs.YtkokplahkiaoaaaDoor

/- Function 43 (spec.l30Line): its runs between cut points. Written by a program of this repo (gen). -/
set_option linter.unusedVariables false
set_option linter.unusedSimpArgs false
set_option maxRecDepth 100000
namespace Go.Proofs.YtkokplahkiaoaaaDoor
open Go Go.Am Go.Proofs
noncomputable section
def ext43 : Ext := []
theorem ext43Ok : ExtOk Tryd.prog ext43 := trivial

noncomputable def b43 : Code := bodyOf Tryd.f43
theorem hb43 : Tryd.f43.body = some b43 := by kernel_rfl
def sig43 : List AT := [AT.v (Ty.str)]
def tys43 : List Ty := [Ty.bool]
def kds43 : List RK := []
def oks43 : List AT := owns sig43
def E43_2 (v3 : Int) (x0 : ByteArray) : Env := [(0, PV.a (Atom.val (Value.string x0))), (3, PV.a (Atom.val (Value.int IntKind.i64 v3)))]
def L43_2 (v3 : Int) (x0 : ByteArray) : Heap := []
mutual
def R43 : Nat → ByteArray → List Dyn → Prop
  | 0, _, _ => False
  | n + 1, x0, ds => (R43_2 n (0) (x0) ds)
def R43_2 : Nat → Int → ByteArray → List Dyn → Prop
  | 0, _, _, _ => False
  | n + 1, v3, x0, ds => (if (Decidable.decide (v3 < (↑(ByteArray.size x0) : Int))) = true then ((0 ≤ v3) ∧ (v3 < (↑(ByteArray.size x0) : Int)) ∧ (if (Decidable.decide ((↑(UInt8.toNat (List.getD (Array.toList (ByteArray.data x0)) (Int.toNat v3) 0)) : Int) < 32)) = true then (ds = [Dyn.mk Ty.bool Bool.false]) else ((0 ≤ v3) ∧ (v3 < (↑(ByteArray.size x0) : Int)) ∧ (if (Decidable.decide ((↑(UInt8.toNat (List.getD (Array.toList (ByteArray.data x0)) (Int.toNat v3) 0)) : Int) > 126)) = true then (ds = [Dyn.mk Ty.bool Bool.false]) else ((InR IntKind.i64 (v3 + 1)) ∧ (R43_2 n (v3 + 1) (x0) ds)))))) else (ds = [Dyn.mk Ty.bool (Decidable.decide ((↑(ByteArray.size x0) : Int) ≤ 100))]))
end
theorem snd43 : ∀ n, (∀ (x0 : ByteArray) ds, R43 n x0 ds → ∀ K q, AtV Tryd.prog 43 (PostR kds43 oks43 ds [] [] q K) 23 K q [] [.code b43] (entE 0 0 sig43 (x0, ())) (entL sig43 (x0, ()))) ∧ (∀ (v3 : Int) (x0 : ByteArray) ds, R43_2 n v3 x0 ds → ∀ K q, AtV Tryd.prog 43 (PostR kds43 oks43 ds [] [] q K) 23 K q [] (cutAt b43 2) (E43_2 v3 x0) (L43_2 v3 x0)) := by
  intro n
  induction n with
  | zero => exact ⟨fun _ _ h => by simp only [R43] at h, fun _ _ _ h => by simp only [R43_2] at h⟩
  | succ n ih =>
  obtain ⟨ih, ih2⟩ := ih
  refine ⟨?_, ?_⟩
  · intro x0 ds h K q
    rw [R43] at h
    exact AtV.go tabOk ext43Ok mixed false [] [] [0, 3] [] [] trivial (ih2 _ _ _ h K q) (by kernel_rfl)

  · intro v3 x0 ds h K q
    rw [R43_2] at h
    by_cases b0 : (Decidable.decide (v3 < (↑(ByteArray.size x0) : Int))) = true
    · rw [if_pos b0] at h
      obtain ⟨s0, s1, h⟩ := h
      by_cases b1 : (Decidable.decide ((↑(UInt8.toNat (List.getD (Array.toList (ByteArray.data x0)) (Int.toNat v3) 0)) : Int) < 32)) = true
      · rw [if_pos b1] at h
        subst h
        exact AtV.ret Tryd.func43 tabOk ext43Ok mixed false [] tys43 [true, true, true] (a1 b0 (a1 s0 (a1 s1 (a1 b1 (a1 (rfl : Bool.true = Bool.true) trivial))))) (by kernel_rfl)
      · rw [if_neg b1] at h
        replace b1 := Bool.eq_false_iff.2 b1
        obtain ⟨s2, s3, h⟩ := h
        by_cases b2 : (Decidable.decide ((↑(UInt8.toNat (List.getD (Array.toList (ByteArray.data x0)) (Int.toNat v3) 0)) : Int) > 126)) = true
        · rw [if_pos b2] at h
          subst h
          exact AtV.ret Tryd.func43 tabOk ext43Ok mixed false [] tys43 [true, false, true] (a1 b0 (a1 s0 (a1 s1 (a1 b1 (a1 s2 (a1 s3 (a1 b2 trivial))))))) (by kernel_rfl)
        · rw [if_neg b2] at h
          replace b2 := Bool.eq_false_iff.2 b2
          obtain ⟨s4, h⟩ := h
          exact AtV.go tabOk ext43Ok mixed false [] [] [0, 3] [] [true, false, false] (a1 b0 (a1 s0 (a1 s1 (a1 b1 (a1 s2 (a1 s3 (a1 b2 (a1 s4 trivial)))))))) (ih2 _ _ _ h K q) (by kernel_rfl)
    · rw [if_neg b0] at h
      replace b0 := Bool.eq_false_iff.2 b0
      subst h
      exact AtV.ret Tryd.func43 tabOk ext43Ok mixed false [] tys43 [false] (a1 b0 trivial) (by kernel_rfl)



def ok43 (b : Int) : Bool := decide (32 ≤ b) && decide (b ≤ 126)
def g43_0 (x0 : ByteArray) : Bool := (bytesOf x0).all ok43 && decide (x0.size ≤ 100)
def P43 (x0 : ByteArray) : Prop := True

theorem top43 (x0 : ByteArray) (hw : Wf .str x0) : R43 (x0.size + 1 + 1) x0 [⟨.bool, g43_0 x0⟩] := by
  have hl := bytesOf_length x0
  rw [R43]
  have key := loop_test (bytesOf x0) 0 ok43 [(⟨.bool, false⟩ : Dyn)] [⟨.bool, decide (x0.size ≤ 100)⟩] (fun n i ds => R43_2 n i x0 ds) (fun n => ?_) (fun n i hi hok ds hr => ?_) (fun n i hi hok => ?_)
  · rw [hl] at key
    unfold g43_0
    cases h : (bytesOf x0).all ok43 <;> rw [h] at key <;> simpa using key
  · show R43_2 (n + 1) ((bytesOf x0).length : Int) x0 _
    rw [R43_2, hl, if_neg (by simp)]
    simp only [Dyn.mk.injEq, heq_eq_eq, true_and, List.cons.injEq, and_true]
    congr 1
    exact propext ⟨fun h => by omega, fun h => by omega⟩
  · simp only [ok43, Bool.and_eq_true, decide_eq_true_eq] at hok
    rw [R43_2, if_pos (by simp; omega)]
    simp only [Int.toNat_natCast, byte_get]
    generalize (bytesOf x0).getD i 0 = c at *
    refine ⟨by omega, by omega, ?_⟩
    rw [if_neg (by simp only [decide_eq_true_eq]; omega)]
    refine ⟨by omega, by omega, ?_⟩
    rw [if_neg (by simp only [decide_eq_true_eq]; omega)]
    exact ⟨inR_up (xs := bytesOf x0) (by rw [hl]; exact hw) hi, hr⟩
  · simp only [ok43, Bool.and_eq_false_iff, decide_eq_false_iff_not] at hok
    rw [R43_2, if_pos (by simp; omega)]
    simp only [Int.toNat_natCast, byte_get]
    generalize (bytesOf x0).getD i 0 = c at *
    refine ⟨by omega, by omega, ?_⟩
    by_cases h1 : c < 32
    · rw [if_pos (by simpa using h1)] <;> trivial
    · rw [if_neg (by simpa using h1)]
      refine ⟨by omega, by omega, ?_⟩
      rw [if_pos (by simp only [decide_eq_true_eq]; omega)] <;> trivial

def S43 : Am.Spec := { sig := sig43, pre := fun ⟨x0, _⟩ => P43 x0, res := fun ⟨x0, _⟩ => [⟨Ty.bool, g43_0 x0⟩] }
theorem con43 : Contract Tryd.prog 43 S43 := contract_of Tryd.func43 hb43 (Nat.le_of_ble_eq_true (by kernel_rfl)) (fun ⟨x0, _⟩ h hwf K q =>
  (snd43 _).1 x0 _ (top43 x0 hwf.1) K q)

end
end Go.Proofs.YtkokplahkiaoaaaDoor

/- Function 26 (spec.l30Ok): its runs between cut points. Written by a program of this repo (gen). -/
set_option linter.unusedVariables false
set_option linter.unusedSimpArgs false
set_option maxRecDepth 100000
namespace Go.Proofs.YtkokplahkiaoaaaDoor
open Go Go.Am Go.Proofs
noncomputable section
def ext26 : Ext := [(43, S43)]
theorem call26_43 : Callable Tryd.prog 43 := ⟨Tryd.f43, Tryd.func43, by kernel_rfl, by kernel_rfl⟩
theorem ext26Ok : ExtOk Tryd.prog ext26 := ⟨⟨call26_43, con43⟩, trivial⟩

noncomputable def b26 : Code := bodyOf Tryd.f26
theorem hb26 : Tryd.f26.body = some b26 := by kernel_rfl
def sig26 : List AT := [AT.v (Ty.sl Ty.str)]
def tys26 : List Ty := [Ty.bool]
def kds26 : List RK := []
def oks26 : List AT := owns sig26
def E26_2 (v3 : Int) (x0 : List ByteArray) : Env := [(0, PV.a (Atom.sl Ty.str x0)), (3, PV.a (Atom.val (Value.int IntKind.i64 v3)))]
def L26_2 (v3 : Int) (x0 : List ByteArray) : Heap := []
mutual
def R26 : Nat → List ByteArray → List Dyn → Prop
  | 0, _, _ => False
  | n + 1, x0, ds => (R26_2 n (0) (x0) ds)
def R26_2 : Nat → Int → List ByteArray → List Dyn → Prop
  | 0, _, _, _ => False
  | n + 1, v3, x0, ds => (if (Decidable.decide (v3 < (↑(List.length x0) : Int))) = true then ((0 ≤ v3) ∧ (v3 < (↑(List.length x0) : Int)) ∧ (if (!g43_0 (List.getD x0 (Int.toNat v3) ByteArray.empty)) = true then (ds = [Dyn.mk Ty.bool Bool.false]) else ((InR IntKind.i64 (v3 + 1)) ∧ (R26_2 n (v3 + 1) (x0) ds)))) else (ds = [Dyn.mk Ty.bool (Decidable.decide ((↑(List.length x0) : Int) ≤ 200))]))
end
theorem snd26 : ∀ n, (∀ (x0 : List ByteArray) ds, R26 n x0 ds → ∀ K q, AtV Tryd.prog 26 (PostR kds26 oks26 ds [] [] q K) 19 K q [] [.code b26] (entE 0 0 sig26 (x0, ())) (entL sig26 (x0, ()))) ∧ (∀ (v3 : Int) (x0 : List ByteArray) ds, R26_2 n v3 x0 ds → ∀ K q, AtV Tryd.prog 26 (PostR kds26 oks26 ds [] [] q K) 19 K q [] (cutAt b26 2) (E26_2 v3 x0) (L26_2 v3 x0)) := by
  intro n
  induction n with
  | zero => exact ⟨fun _ _ h => by simp only [R26] at h, fun _ _ _ h => by simp only [R26_2] at h⟩
  | succ n ih =>
  obtain ⟨ih, ih2⟩ := ih
  refine ⟨?_, ?_⟩
  · intro x0 ds h K q
    rw [R26] at h
    exact AtV.go tabOk ext26Ok mixed false [] [] [0, 3] [] [] trivial (ih2 _ _ _ h K q) (by kernel_rfl)

  · intro v3 x0 ds h K q
    rw [R26_2] at h
    by_cases b0 : (Decidable.decide (v3 < (↑(List.length x0) : Int))) = true
    · rw [if_pos b0] at h
      obtain ⟨s0, s1, h⟩ := h
      by_cases b1 : (!g43_0 (List.getD x0 (Int.toNat v3) ByteArray.empty)) = true
      · rw [if_pos b1] at h
        subst h
        exact AtV.ret Tryd.func26 tabOk ext26Ok mixed false [] tys26 [true, true] (a1 b0 (a1 s0 (a1 s1 (a1 trivial (a1 b1 trivial))))) (by kernel_rfl)
      · rw [if_neg b1] at h
        replace b1 := Bool.eq_false_iff.2 b1
        obtain ⟨s2, h⟩ := h
        exact AtV.go tabOk ext26Ok mixed false [] [] [0, 3] [] [true, false] (a1 b0 (a1 s0 (a1 s1 (a1 trivial (a1 b1 (a1 s2 trivial)))))) (ih2 _ _ _ h K q) (by kernel_rfl)
    · rw [if_neg b0] at h
      replace b0 := Bool.eq_false_iff.2 b0
      subst h
      exact AtV.ret Tryd.func26 tabOk ext26Ok mixed false [] tys26 [false] (a1 b0 trivial) (by kernel_rfl)



def g26_0 (x0 : List ByteArray) : Bool := x0.all g43_0 && decide (x0.length ≤ 200)
def P26 (x0 : List ByteArray) : Prop := True

theorem top26 (x0 : List ByteArray) (hw : Wf (.sl .str) x0) : R26 (x0.length + 1 + 1) x0 [⟨.bool, g26_0 x0⟩] := by
  rw [R26]
  have key := loop_test x0 ByteArray.empty g43_0 [(⟨.bool, false⟩ : Dyn)] [⟨.bool, decide (x0.length ≤ 200)⟩] (fun n i ds => R26_2 n i x0 ds) (fun n => ?_) (fun n i hi hok ds hr => ?_) (fun n i hi hok => ?_)
  · unfold g26_0
    cases h : x0.all g43_0 <;> rw [h] at key <;> simpa using key
  · rw [R26_2, if_neg (by simp)]
    simp only [Dyn.mk.injEq, heq_eq_eq, true_and, List.cons.injEq, and_true]
    congr 1
    exact propext ⟨fun h => by omega, fun h => by omega⟩
  · rw [R26_2, if_pos (by simp; omega)]
    simp only [Int.toNat_natCast]
    refine ⟨by omega, by omega, ?_⟩
    rw [if_neg (by rw [hok]; simp)]
    exact ⟨inR_up hw.1 hi, hr⟩
  · rw [R26_2, if_pos (by simp; omega)]
    simp only [Int.toNat_natCast]
    refine ⟨by omega, by omega, ?_⟩
    rw [if_pos (by rw [hok]; simp)] <;> trivial

def S26 : Am.Spec := { sig := sig26, pre := fun ⟨x0, _⟩ => P26 x0, res := fun ⟨x0, _⟩ => [⟨Ty.bool, g26_0 x0⟩] }
theorem con26 : Contract Tryd.prog 26 S26 := contract_of Tryd.func26 hb26 (Nat.le_of_ble_eq_true (by kernel_rfl)) (fun ⟨x0, _⟩ h hwf K q =>
  (snd26 _).1 x0 _ (top26 x0 hwf.1) K q)

end
end Go.Proofs.YtkokplahkiaoaaaDoor

/- Function 15 (spec.l30Done): its runs between cut points. Written by a program of this repo (gen). -/
set_option linter.unusedVariables false
set_option linter.unusedSimpArgs false
set_option maxRecDepth 100000
namespace Go.Proofs.YtkokplahkiaoaaaDoor
open Go Go.Am Go.Proofs
noncomputable section
def ext15 : Ext := [(26, S26)]
theorem call15_26 : Callable Tryd.prog 26 := ⟨Tryd.f26, Tryd.func26, by kernel_rfl, by kernel_rfl⟩
theorem ext15Ok : ExtOk Tryd.prog ext15 := ⟨⟨call15_26, con26⟩, trivial⟩

noncomputable def b15 : Code := bodyOf Tryd.f15
theorem hb15 : Tryd.f15.body = some b15 := by kernel_rfl
def sig15 : List AT := [AT.own Ty.str]
def tys15 : List Ty := [Ty.sl Ty.str, Ty.int IntKind.i64]
def kds15 : List RK := []
def oks15 : List AT := owns sig15
def P15 (x0 : List ByteArray) : Prop := True
def g15_0 (x0 : List ByteArray) : List ByteArray := (if (!g26_0 x0) = true then [] else x0)
def g15_1 (x0 : List ByteArray) : Int := (if (!g26_0 x0) = true then 5 else 0)
theorem at15 (x0 : List ByteArray) (h : P15 x0) (K : Ctx) (q : Nat → Value) : AtV Tryd.prog 15 (PostR kds15 oks15 [⟨Ty.sl Ty.str, g15_0 x0⟩, ⟨Ty.int IntKind.i64, g15_1 x0⟩] [none] [0] q K) 8 K q [0] [.code b15] (entE 0 0 sig15 (x0, ())) (entL sig15 (x0, ())) := by
  unfold P15 at h
  unfold g15_0 g15_1
  by_cases b0 : (!g26_0 x0) = true
  · try simp only [if_pos b0] at h ⊢
    exact AtV.weak (AtV.ret (us := [Option.some (Lst.mk Ty.str x0)]) Tryd.func15 tabOk ext15Ok mixed false [] tys15 [true] (a1 trivial (a1 b0 trivial)) (by kernel_rfl)) ⟨.inr rfl, trivial⟩
  · try simp only [if_neg b0] at h ⊢
    replace b0 := Bool.eq_false_iff.2 b0
    exact AtV.weak (AtV.ret (us := [Option.none]) Tryd.func15 tabOk ext15Ok mixed false [] tys15 [false] (a1 trivial (a1 b0 trivial)) (by kernel_rfl)) ⟨.inr rfl, trivial⟩

def S15 : Am.Spec := { sig := sig15, pre := fun ⟨x0, _⟩ => P15 x0, upd := fun ⟨x0, _⟩ => [none], res := fun ⟨x0, _⟩ => [⟨Ty.sl Ty.str, g15_0 x0⟩, ⟨Ty.int IntKind.i64, g15_1 x0⟩], kds := kds15 }
theorem con15 : Contract Tryd.prog 15 S15 := contract_of Tryd.func15 hb15 (Nat.le_of_ble_eq_true (by kernel_rfl)) (fun ⟨x0, _⟩ h _ K q => at15 x0 h K q)


end
end Go.Proofs.YtkokplahkiaoaaaDoor

/- Function 5 (spec.TableLines): its runs between cut points. Written by a program of this repo (gen). -/
set_option linter.unusedVariables false
set_option linter.unusedSimpArgs false
set_option maxRecDepth 100000
namespace Go.Proofs.YtkokplahkiaoaaaDoor
open Go Go.Am Go.Proofs
noncomputable section
def ext5 : Ext := [(14, S14), (16, S16), (15, S15)]
theorem call5_14 : Callable Tryd.prog 14 := ⟨Tryd.f14, Tryd.func14, by kernel_rfl, by kernel_rfl⟩
theorem call5_16 : Callable Tryd.prog 16 := ⟨Tryd.f16, Tryd.func16, by kernel_rfl, by kernel_rfl⟩
theorem call5_15 : Callable Tryd.prog 15 := ⟨Tryd.f15, Tryd.func15, by kernel_rfl, by kernel_rfl⟩
theorem ext5Ok : ExtOk Tryd.prog ext5 := ⟨⟨call5_14, con14⟩, ⟨call5_16, con16⟩, ⟨call5_15, con15⟩, trivial⟩

noncomputable def b5 : Code := bodyOf Tryd.f5
theorem hb5 : Tryd.f5.body = some b5 := by kernel_rfl
def sig5 : List AT := [AT.v (Ty.sl (Ty.sl Ty.str))]
def tys5 : List Ty := [Ty.sl Ty.str, Ty.int IntKind.i64]
def kds5 : List RK := []
def oks5 : List AT := owns sig5
def P5 (x0 : List (List ByteArray)) : Prop := (if (!g14_0 x0) = true then True else ((P16 x0) ∧ True))
def g5_0 (x0 : List (List ByteArray)) : List ByteArray := (if (!g14_0 x0) = true then [] else g15_0 (g16_0 x0))
def g5_1 (x0 : List (List ByteArray)) : Int := (if (!g14_0 x0) = true then 2 else g15_1 (g16_0 x0))
theorem at5 (x0 : List (List ByteArray)) (h : P5 x0) (K : Ctx) (q : Nat → Value) : AtV Tryd.prog 5 (PostR kds5 oks5 [⟨Ty.sl Ty.str, g5_0 x0⟩, ⟨Ty.int IntKind.i64, g5_1 x0⟩] [] [] q K) 12 K q [] [.code b5] (entE 0 0 sig5 (x0, ())) (entL sig5 (x0, ())) := by
  unfold P5 at h
  unfold g5_0 g5_1
  by_cases b0 : (!g14_0 x0) = true
  · try simp only [if_pos b0] at h ⊢
    exact AtV.ret Tryd.func5 tabOk ext5Ok mixed false [] tys5 [true] (a1 trivial (a1 b0 trivial)) (by kernel_rfl)
  · try simp only [if_neg b0] at h ⊢
    replace b0 := Bool.eq_false_iff.2 b0
    obtain ⟨s0, h⟩ := h
    exact AtV.ret Tryd.func5 tabOk ext5Ok mixed false [] tys5 [false] (a1 trivial (a1 b0 (a1 s0 (a1 trivial trivial)))) (by kernel_rfl)

def S5 : Am.Spec := { sig := sig5, pre := fun ⟨x0, _⟩ => P5 x0, res := fun ⟨x0, _⟩ => [⟨Ty.sl Ty.str, g5_0 x0⟩, ⟨Ty.int IntKind.i64, g5_1 x0⟩], kds := kds5 }
theorem con5 : Contract Tryd.prog 5 S5 := contract_of Tryd.func5 hb5 (Nat.le_of_ble_eq_true (by kernel_rfl)) (fun ⟨x0, _⟩ h _ K q => at5 x0 h K q)


end
end Go.Proofs.YtkokplahkiaoaaaDoor

/- The contracts of the library that this program uses, laid at this program. Written by a tool of the kit. -/
set_option linter.unusedVariables false
set_option maxRecDepth 100000
namespace Go.Proofs
open Go.Shelf
def Tryd.lays169_ren : Go.Shelf.Ren := ⟨fun | 169 => 37 | n => n, fun | 70 => 52 | 9 => 9 | 0 => 0 | 72 => 54 | 37 => 45 | 127 => 77 | 3 => 3 | 5 => 5 | n => n, fun | n => n⟩
theorem Tryd.lays169 : Go.Proofs.Lays.n169 Tryd.prog Tryd.lays169_ren := {
  mixed := by kernel_rfl
  f169 := Tryd.func37.trans (congrArg some (by kernel_rfl))
  t0 := Tryd.underlying0
  a0 := Tryd.isAgg0
  z0 := Tryd.sizeOf0
  v0 := Tryd.zeroValue0
  t3 := Tryd.underlying3
  a3 := Tryd.isAgg3
  z3 := Tryd.sizeOf3
  v3 := Tryd.zeroValue3
  t9 := Tryd.underlying9
  a9 := Tryd.isAgg9
  z9 := Tryd.sizeOf9
  v9 := Tryd.zeroValue9
  t37 := Tryd.underlying45
  a37 := Tryd.isAgg45
  z37 := Tryd.sizeOf45
  v37 := Tryd.zeroValue45
  t70 := Tryd.underlying52
  a70 := Tryd.isAgg52
  z70 := Tryd.sizeOf52
  v70 := Tryd.zeroValue52
  t72 := Tryd.underlying54
  a72 := Tryd.isAgg54
  z72 := Tryd.sizeOf54
  v72 := Tryd.zeroValue54
  t127 := Tryd.underlying77
  a127 := Tryd.isAgg77
  z127 := Tryd.sizeOf77
  v127 := Tryd.zeroValue77 }
theorem Tryd.Builder_Extra_169 : Builder.Extra Tryd.prog Tryd.lays169_ren := {
  sizeBuilder := by kernel_rfl
  liesBuilder := by kernel_rfl
  t5 := Tryd.underlying5
  a5 := Tryd.isAgg5
  z5 := Tryd.sizeOf5
  v5 := Tryd.zeroValue5
  infoByte := by kernel_rfl
  cellsByte := by kernel_rfl
  sizeByte := by kernel_rfl
  neB5 := by decide }
def Tryd.lays156_ren : Go.Shelf.Ren := ⟨fun | 156 => 23 | 165 => 34 | 166 => 35 | 169 => 37 | 240 => 49 | 241 => 50 | 276 => 56 | 277 => 57 | n => n, fun | 31 => 24 | 9 => 9 | 3 => 3 | 4 => 4 | 0 => 0 | 20 => 20 | 72 => 54 | 76 => 58 | 70 => 52 | 37 => 45 | 75 => 57 | 127 => 77 | 164 => 81 | 5 => 5 | 80 => 61 | n => n, fun | n => n⟩
theorem Tryd.lays156 : Go.Proofs.Lays.n156 Tryd.prog Tryd.lays156_ren := {
  mixed := by kernel_rfl
  f156 := Tryd.func23.trans (congrArg some (by kernel_rfl))
  f165 := Tryd.func34.trans (congrArg some (by kernel_rfl))
  f166 := Tryd.func35.trans (congrArg some (by kernel_rfl))
  f169 := Tryd.func37.trans (congrArg some (by kernel_rfl))
  f240 := Tryd.func49.trans (congrArg some (by kernel_rfl))
  f241 := Tryd.func50.trans (congrArg some (by kernel_rfl))
  f276 := Tryd.func56.trans (congrArg some (by kernel_rfl))
  f277 := Tryd.func57.trans (congrArg some (by kernel_rfl))
  t0 := Tryd.underlying0
  a0 := Tryd.isAgg0
  z0 := Tryd.sizeOf0
  v0 := Tryd.zeroValue0
  t3 := Tryd.underlying3
  a3 := Tryd.isAgg3
  z3 := Tryd.sizeOf3
  v3 := Tryd.zeroValue3
  t4 := Tryd.underlying4
  a4 := Tryd.isAgg4
  z4 := Tryd.sizeOf4
  v4 := Tryd.zeroValue4
  t9 := Tryd.underlying9
  a9 := Tryd.isAgg9
  z9 := Tryd.sizeOf9
  v9 := Tryd.zeroValue9
  t20 := Tryd.underlying20
  a20 := Tryd.isAgg20
  z20 := Tryd.sizeOf20
  v20 := Tryd.zeroValue20
  t31 := Tryd.underlying24
  a31 := Tryd.isAgg24
  z31 := Tryd.sizeOf24
  v31 := Tryd.zeroValue24
  t37 := Tryd.underlying45
  a37 := Tryd.isAgg45
  z37 := Tryd.sizeOf45
  v37 := Tryd.zeroValue45
  t70 := Tryd.underlying52
  a70 := Tryd.isAgg52
  z70 := Tryd.sizeOf52
  v70 := Tryd.zeroValue52
  t72 := Tryd.underlying54
  a72 := Tryd.isAgg54
  z72 := Tryd.sizeOf54
  v72 := Tryd.zeroValue54
  t75 := Tryd.underlying57
  a75 := Tryd.isAgg57
  z75 := Tryd.sizeOf57
  v75 := Tryd.zeroValue57
  t76 := Tryd.underlying58
  a76 := Tryd.isAgg58
  z76 := Tryd.sizeOf58
  v76 := Tryd.zeroValue58
  t127 := Tryd.underlying77
  a127 := Tryd.isAgg77
  z127 := Tryd.sizeOf77
  v127 := Tryd.zeroValue77
  t164 := Tryd.underlying81
  a164 := Tryd.isAgg81
  z164 := Tryd.sizeOf81
  v164 := Tryd.zeroValue81 }
theorem Tryd.Builder_Extra_156 : Builder.Extra Tryd.prog Tryd.lays156_ren := {
  sizeBuilder := by kernel_rfl
  liesBuilder := by kernel_rfl
  t5 := Tryd.underlying5
  a5 := Tryd.isAgg5
  z5 := Tryd.sizeOf5
  v5 := Tryd.zeroValue5
  infoByte := by kernel_rfl
  cellsByte := by kernel_rfl
  sizeByte := by kernel_rfl
  neB5 := by decide }
open Go.RowKit in theorem Tryd.strings_Join_none (a : Option Addr) (c : Nat) (sep : ByteArray) (w : World) :
    Calls Tryd.prog 23 #[.slice a 0 c, .string sep] w fun e w' => e = .returned (.string ⟨#[]⟩) ∧ w' = w := Any.strings_Join_none Tryd.lays156 Tryd.Builder_Extra_156 a c sep w
open Go.RowKit in theorem Tryd.strings_Join (bk o c : Nat) (xs : List ByteArray) (sep : ByteArray) (w : World) (hcells : ∀ (j : Nat) x, xs[j]? = some x → w.cell? ⟨bk, o + j, none⟩ = some (.string x)) (hbk : bk < w.heap.size) (hN : xs.length ≤ 140737488355328) (hcap : xs.length ≤ c) (hlen : (Lib.join (xs.map (·.data.toList)) sep.data.toList).length ≤ 140737488355328) :
    Calls Tryd.prog 23 #[.slice (some ⟨bk, o, none⟩) xs.length c, .string sep] w fun e w' => e = .returned (.string ⟨(Lib.join (xs.map (·.data.toList)) sep.data.toList).toArray⟩) ∧ Below w.heap.size w w' := Any.strings_Join Tryd.lays156 Tryd.Builder_Extra_156 bk o c xs sep w hcells hbk hN hcap hlen
def Tryd.lays162_ren : Go.Shelf.Ren := ⟨fun | 162 => 22 | 232 => 38 | 227 => 39 | 234 => 40 | 236 => 41 | 228 => 51 | 271 => 52 | 151 => 53 | 120 => 58 | 197 => 59 | 152 => 60 | 260 => 62 | 137 => 63 | 119 => 64 | 224 => 65 | 225 => 66 | 217 => 67 | 266 => 68 | n => n, fun | 9 => 9 | 4 => 4 | 3 => 3 | 5 => 5 | 117 => 65 | 116 => 64 | 0 => 0 | 124 => 68 | 21 => 21 | 105 => 78 | 46 => 48 | 119 => 89 | 139 => 92 | 138 => 91 | n => n, fun | 3 => 1 | 4 => 2 | n => n⟩
theorem Tryd.lays162 : Go.Proofs.Lays.n162 Tryd.prog Tryd.lays162_ren := {
  mixed := by kernel_rfl
  f119 := Tryd.func64.trans (congrArg some (by kernel_rfl))
  f120 := Tryd.func58.trans (congrArg some (by kernel_rfl))
  f137 := Tryd.func63.trans (congrArg some (by kernel_rfl))
  f151 := Tryd.func53.trans (congrArg some (by kernel_rfl))
  f152 := Tryd.func60.trans (congrArg some (by kernel_rfl))
  f162 := Tryd.func22.trans (congrArg some (by kernel_rfl))
  f197 := Tryd.func59.trans (congrArg some (by kernel_rfl))
  f217 := Tryd.func67.trans (congrArg some (by kernel_rfl))
  f224 := Tryd.func65.trans (congrArg some (by kernel_rfl))
  f225 := Tryd.func66.trans (congrArg some (by kernel_rfl))
  f227 := Tryd.func39.trans (congrArg some (by kernel_rfl))
  f228 := Tryd.func51.trans (congrArg some (by kernel_rfl))
  f232 := Tryd.func38.trans (congrArg some (by kernel_rfl))
  f234 := Tryd.func40.trans (congrArg some (by kernel_rfl))
  f236 := Tryd.func41.trans (congrArg some (by kernel_rfl))
  f260 := Tryd.func62.trans (congrArg some (by kernel_rfl))
  f266 := Tryd.func68.trans (congrArg some (by kernel_rfl))
  f271 := Tryd.func52.trans (congrArg some (by kernel_rfl))
  t0 := Tryd.underlying0
  a0 := Tryd.isAgg0
  z0 := Tryd.sizeOf0
  v0 := Tryd.zeroValue0
  t3 := Tryd.underlying3
  a3 := Tryd.isAgg3
  z3 := Tryd.sizeOf3
  v3 := Tryd.zeroValue3
  t4 := Tryd.underlying4
  a4 := Tryd.isAgg4
  z4 := Tryd.sizeOf4
  v4 := Tryd.zeroValue4
  t5 := Tryd.underlying5
  a5 := Tryd.isAgg5
  z5 := Tryd.sizeOf5
  v5 := Tryd.zeroValue5
  t9 := Tryd.underlying9
  a9 := Tryd.isAgg9
  z9 := Tryd.sizeOf9
  v9 := Tryd.zeroValue9
  t21 := Tryd.underlying21
  a21 := Tryd.isAgg21
  z21 := Tryd.sizeOf21
  v21 := Tryd.zeroValue21
  t46 := Tryd.underlying48
  a46 := Tryd.isAgg48
  z46 := Tryd.sizeOf48
  v46 := Tryd.zeroValue48
  t105 := Tryd.underlying78
  a105 := Tryd.isAgg78
  z105 := Tryd.sizeOf78
  v105 := Tryd.zeroValue78
  t116 := Tryd.underlying64
  a116 := Tryd.isAgg64
  z116 := Tryd.sizeOf64
  t117 := Tryd.underlying65
  a117 := Tryd.isAgg65
  z117 := Tryd.sizeOf65
  v117 := Tryd.zeroValue65
  t119 := Tryd.underlying89
  a119 := Tryd.isAgg89
  z119 := Tryd.sizeOf89
  t124 := Tryd.underlying68
  a124 := Tryd.isAgg68
  z124 := Tryd.sizeOf68
  v124 := Tryd.zeroValue68
  t138 := Tryd.underlying91
  a138 := Tryd.isAgg91
  z138 := Tryd.sizeOf91
  v138 := Tryd.zeroValue91
  t139 := Tryd.underlying92
  a139 := Tryd.isAgg92
  z139 := Tryd.sizeOf92
  v139 := Tryd.zeroValue92
  g3 := by kernel_rfl
  g4 := by kernel_rfl }
open Go.RowKit in theorem Tryd.strings_TrimRight_one (s : ByteArray) (c : UInt8) (hc : c.toNat < 128) (w : World) (hs : s.size ≤ 9223372036854775807) :
    Calls Tryd.prog 22 #[.string s, .string ⟨#[c]⟩] w fun e w' => e = .returned (.string ⟨(Lib.trimRightB s.data.toList c).toArray⟩) ∧ w' = w := Any.strings_TrimRight_one Tryd.lays162 s c hc w hs
open Go.RowKit in theorem Tryd.Builder_String_any_k (B b : Nat) (l : List UInt8) (w : World) (h : Lib.IsBuilderF 54 5 B b (Lib.byteCells l) w) (hBw : B ≤ w.heap.size) :
    Calls Tryd.prog 37 #[.pointer (some ⟨b, 0, none⟩)] w fun e w' => e = .returned (.string ⟨l.toArray⟩) ∧ (Lib.IsBuilderF 54 5 B b (Lib.byteCells l) w' ∧ Below B w w' ∧ Lib.OthersKept 5 (some b) w w') := Any.Builder_String_any_k Tryd.lays169 Tryd.Builder_Extra_169 B b l w h hBw
def Tryd.lays99_ren : Go.Shelf.Ren := ⟨fun | 99 => 33 | 206 => 48 | n => n, fun | 9 => 9 | 4 => 4 | 3 => 3 | n => n, fun | n => n⟩
theorem Tryd.lays99 : Go.Proofs.Lays.n99 Tryd.prog Tryd.lays99_ren := {
  mixed := by kernel_rfl
  f99 := Tryd.func33.trans (congrArg some (by kernel_rfl))
  f206 := Tryd.func48.trans (congrArg some (by kernel_rfl))
  t3 := Tryd.underlying3
  a3 := Tryd.isAgg3
  z3 := Tryd.sizeOf3
  v3 := Tryd.zeroValue3
  t4 := Tryd.underlying4
  a4 := Tryd.isAgg4
  z4 := Tryd.sizeOf4
  v4 := Tryd.zeroValue4
  t9 := Tryd.underlying9
  a9 := Tryd.isAgg9
  z9 := Tryd.sizeOf9
  v9 := Tryd.zeroValue9 }
open Go.RowKit Go.Lib in theorem Tryd.strings_HasPrefix (s p : ByteArray) (w : World) :
    Calls Tryd.prog 33 #[.string s, .string p] w fun e w' => e = .returned (.bool (Lib.hasPrefix s.data.toList p.data.toList)) ∧ w' = w := Any.strings_HasPrefix Tryd.lays99 s p w
def Tryd.lays105_ren : Go.Shelf.Ren := ⟨fun | 105 => 21 | 212 => 32 | 99 => 33 | 165 => 34 | 166 => 35 | 170 => 36 | 169 => 37 | 263 => 46 | 264 => 47 | 206 => 48 | 240 => 49 | 241 => 50 | 276 => 56 | 277 => 57 | n => n, fun | 9 => 9 | 3 => 3 | 4 => 4 | 20 => 20 | 0 => 0 | 46 => 48 | 109 => 49 | 5 => 5 | 72 => 54 | 76 => 58 | 51 => 71 | 146 => 72 | 53 => 74 | 148 => 75 | 70 => 52 | 37 => 45 | 75 => 57 | 127 => 77 | 164 => 81 | 80 => 61 | n => n, fun | n => n⟩
theorem Tryd.lays105 : Go.Proofs.Lays.n105 Tryd.prog Tryd.lays105_ren := {
  mixed := by kernel_rfl
  f99 := Tryd.func33.trans (congrArg some (by kernel_rfl))
  f105 := Tryd.func21.trans (congrArg some (by kernel_rfl))
  f165 := Tryd.func34.trans (congrArg some (by kernel_rfl))
  f166 := Tryd.func35.trans (congrArg some (by kernel_rfl))
  f169 := Tryd.func37.trans (congrArg some (by kernel_rfl))
  f170 := Tryd.func36.trans (congrArg some (by kernel_rfl))
  f206 := Tryd.func48.trans (congrArg some (by kernel_rfl))
  f212 := Tryd.func32.trans (congrArg some (by kernel_rfl))
  f240 := Tryd.func49.trans (congrArg some (by kernel_rfl))
  f241 := Tryd.func50.trans (congrArg some (by kernel_rfl))
  f263 := Tryd.func46.trans (congrArg some (by kernel_rfl))
  f264 := Tryd.func47.trans (congrArg some (by kernel_rfl))
  f276 := Tryd.func56.trans (congrArg some (by kernel_rfl))
  f277 := Tryd.func57.trans (congrArg some (by kernel_rfl))
  t0 := Tryd.underlying0
  a0 := Tryd.isAgg0
  z0 := Tryd.sizeOf0
  v0 := Tryd.zeroValue0
  t3 := Tryd.underlying3
  a3 := Tryd.isAgg3
  z3 := Tryd.sizeOf3
  v3 := Tryd.zeroValue3
  t4 := Tryd.underlying4
  a4 := Tryd.isAgg4
  z4 := Tryd.sizeOf4
  v4 := Tryd.zeroValue4
  t5 := Tryd.underlying5
  a5 := Tryd.isAgg5
  z5 := Tryd.sizeOf5
  v5 := Tryd.zeroValue5
  t9 := Tryd.underlying9
  a9 := Tryd.isAgg9
  z9 := Tryd.sizeOf9
  v9 := Tryd.zeroValue9
  t20 := Tryd.underlying20
  a20 := Tryd.isAgg20
  z20 := Tryd.sizeOf20
  v20 := Tryd.zeroValue20
  t37 := Tryd.underlying45
  a37 := Tryd.isAgg45
  z37 := Tryd.sizeOf45
  v37 := Tryd.zeroValue45
  t46 := Tryd.underlying48
  a46 := Tryd.isAgg48
  z46 := Tryd.sizeOf48
  v46 := Tryd.zeroValue48
  t51 := Tryd.underlying71
  a51 := Tryd.isAgg71
  z51 := Tryd.sizeOf71
  v51 := Tryd.zeroValue71
  t53 := Tryd.underlying74
  a53 := Tryd.isAgg74
  z53 := Tryd.sizeOf74
  v53 := Tryd.zeroValue74
  t70 := Tryd.underlying52
  a70 := Tryd.isAgg52
  z70 := Tryd.sizeOf52
  v70 := Tryd.zeroValue52
  t72 := Tryd.underlying54
  a72 := Tryd.isAgg54
  z72 := Tryd.sizeOf54
  v72 := Tryd.zeroValue54
  t75 := Tryd.underlying57
  a75 := Tryd.isAgg57
  z75 := Tryd.sizeOf57
  v75 := Tryd.zeroValue57
  t76 := Tryd.underlying58
  a76 := Tryd.isAgg58
  z76 := Tryd.sizeOf58
  v76 := Tryd.zeroValue58
  t109 := Tryd.underlying49
  a109 := Tryd.isAgg49
  z109 := Tryd.sizeOf49
  v109 := Tryd.zeroValue49
  t127 := Tryd.underlying77
  a127 := Tryd.isAgg77
  z127 := Tryd.sizeOf77
  v127 := Tryd.zeroValue77
  t146 := Tryd.underlying72
  a146 := Tryd.isAgg72
  z146 := Tryd.sizeOf72
  v146 := Tryd.zeroValue72
  t148 := Tryd.underlying75
  a148 := Tryd.isAgg75
  z148 := Tryd.sizeOf75
  v148 := Tryd.zeroValue75
  t164 := Tryd.underlying81
  a164 := Tryd.isAgg81
  z164 := Tryd.sizeOf81
  v164 := Tryd.zeroValue81 }
theorem Tryd.Builder_Extra_105 : Builder.Extra Tryd.prog Tryd.lays105_ren := {
  sizeBuilder := by kernel_rfl
  liesBuilder := by kernel_rfl
  t5 := Tryd.underlying5
  a5 := Tryd.isAgg5
  z5 := Tryd.sizeOf5
  v5 := Tryd.zeroValue5
  infoByte := by kernel_rfl
  cellsByte := by kernel_rfl
  sizeByte := by kernel_rfl
  neB5 := by decide }
open Go.RowKit Go.Lib in theorem Tryd.strings_Repeat (s : ByteArray) (c : Nat) (w : World) (hc : c ≤ 9223372036854775807) (hlen : s.size * c ≤ 140737488355328) :
    Calls Tryd.prog 21 #[.string s, .int .i64 c] w fun e w' => e = .returned (.string ⟨(Lib.repeatL s.data.toList c).toArray⟩) ∧ Below w.heap.size w w' := Any.strings_Repeat Tryd.lays105 Tryd.Builder_Extra_105 s c w hc hlen
end Go.Proofs

/- Function 21 (strings.Repeat): its contract, off what is known of the library. -/
set_option linter.unusedVariables false
set_option linter.unusedSimpArgs false
set_option maxRecDepth 100000
namespace Go.Proofs.YtkokplahkiaoaaaDoor
open Go Go.Am Go.Proofs

def sig21 : List AT := [AT.v Ty.str, AT.v (Ty.int .i64)]
def g21_0 (x0 : ByteArray) (x1 : Int) : ByteArray := ⟨(Lib.repeatL x0.data.toList x1.toNat).toArray⟩
def P21 (x0 : ByteArray) (x1 : Int) : Prop := 0 ≤ x1 ∧ (x0.size : Int) * x1 ≤ 140737488355328
def S21 : Am.Spec := { sig := sig21, pre := fun ⟨x0, x1, _⟩ => P21 x0 x1, res := fun ⟨x0, x1, _⟩ => [⟨Ty.str, g21_0 x0 x1⟩] }
theorem con21 : Contract Tryd.prog 21 S21 := contract_flat rfl fun w ⟨x0, x1, _⟩ vs bss hg hp hw ha => by
  obtain ⟨v0, s0, _, _, rfl, _, ⟨_, rfl, _⟩, v1, s1, _, _, rfl, _, ⟨_, rfl, _⟩, rfl, _⟩ := ha
  obtain ⟨h0, h1⟩ := hp
  obtain ⟨c, rfl⟩ : ∃ c : Nat, x1 = (c : Int) := Int.eq_ofNat_of_zero_le h0
  have hi : InR .i64 (c : Int) := hw.2.1
  rw [i64_iff] at hi
  have hm : x0.size * c ≤ 140737488355328 := by
    have : ((x0.size * c : Nat) : Int) = (x0.size : Int) * (c : Int) := Int.natCast_mul _ _
    omega
  refine ⟨fun d hd => ?_, ?_⟩
  · rw [List.mem_singleton.1 hd]
    refine ⟨rfl, ?_⟩
    show (ByteArray.mk (Lib.repeatL x0.data.toList c).toArray).size ≤ maxLen
    have : (ByteArray.mk (Lib.repeatL x0.data.toList c).toArray).size = c * x0.data.toList.length := by
      show (Lib.repeatL x0.data.toList c).toArray.size = _
      rw [List.size_toArray, Lib.repeatL_length]
    rw [this, Nat.mul_comm]
    have e : x0.data.toList.length = x0.size := rfl
    rw [e]
    unfold maxLen
    omega
  · refine (Tryd.strings_Repeat x0 c w (by omega) hm).mono ?_
    rintro e w' ⟨rfl, hb⟩
    exact ⟨rfl, Kept.of_below hb⟩

end Go.Proofs.YtkokplahkiaoaaaDoor

/- Function 23 (strings.Join): its contract, off what is known of the library. -/
set_option linter.unusedVariables false
set_option linter.unusedSimpArgs false
set_option maxRecDepth 100000
namespace Go.Proofs.YtkokplahkiaoaaaDoor
open Go Go.Am Go.Proofs

def sig23 : List AT := [AT.v (Ty.sl Ty.str), AT.v Ty.str]
def g23_0 (x0 : List ByteArray) (x1 : ByteArray) : ByteArray := ⟨(Lib.join (x0.map fun x => x.data.toList) x1.data.toList).toArray⟩
def P23 (x0 : List ByteArray) (x1 : ByteArray) : Prop := x0.length ≤ 1048576 ∧ (Lib.join (x0.map fun x => x.data.toList) x1.data.toList).length ≤ 140737488355328
def S23 : Am.Spec := { sig := sig23, pre := fun ⟨x0, x1, _⟩ => P23 x0 x1, res := fun ⟨x0, x1, _⟩ => [⟨Ty.str, g23_0 x0 x1⟩] }
theorem con23 : Contract Tryd.prog 23 S23 := contract_flat rfl fun w ⟨x0, x1, _⟩ vs bss hg hp hw ha => by
  obtain ⟨v0, s0, _, _, rfl, _, ⟨_, ho⟩, v1, s1, _, _, rfl, _, ⟨_, rfl, _⟩, rfl, _⟩ := ha
  obtain ⟨h0, h1⟩ : x0.length ≤ 1048576 ∧ (Lib.join (x0.map fun x => x.data.toList) x1.data.toList).length ≤ 140737488355328 := hp
  refine ⟨fun d hd => ?_, ?_⟩
  · rw [List.mem_singleton.1 hd]
    refine ⟨rfl, ?_⟩
    show (List.toArray _).size ≤ maxLen
    rw [List.size_toArray]; exact Nat.le_trans h1 (by decide)
  · obtain ⟨_, _, hcase⟩ := slAt_flat (t := .str) rfl ho
    rcases hcase with ⟨ad, rfl, rfl⟩ | ⟨b', off, cap, rfl, h2, h3, hG, hcells⟩
    · refine (Tryd.strings_Join_none ad 0 x1 w).mono ?_
      rintro e w' ⟨rfl, rfl⟩
      exact ⟨rfl, Kept.refl _ _⟩
    · refine (Tryd.strings_Join b' off cap x0 x1 w (fun j x hx => ?_) hG.1 (by omega) h2 h1).mono ?_
      · refine hcells j _ ?_
        have e : fcs .str x0 = x0.map Value.string := by
          have : ∀ xs : List ByteArray, fcs .str xs = xs.map Value.string := by
            intro xs
            induction xs with
            | nil => rfl
            | cons a r ih => unfold fcs at ih ⊢; rw [List.map_cons, List.flatten_cons, ih]; rfl
          exact this x0
        rw [e, List.getElem?_map, hx]
        rfl
      · rintro e w' ⟨rfl, hb⟩
        exact ⟨rfl, Kept.of_below hb⟩

end Go.Proofs.YtkokplahkiaoaaaDoor

/- Function 22 (strings.TrimRight): its contract, off what is known of the library. -/
set_option linter.unusedVariables false
set_option linter.unusedSimpArgs false
set_option maxRecDepth 100000
namespace Go.Proofs.YtkokplahkiaoaaaDoor
open Go Go.Am Go.Proofs
def sig22 : List AT := [AT.v Ty.str, AT.v Ty.str]
def g22_0 (x0 x1 : ByteArray) : ByteArray := ⟨(Lib.trimRightB x0.data.toList (x1.data.toList.getD 0 0)).toArray⟩
def P22 (x0 x1 : ByteArray) : Prop := ∃ c : UInt8, x1 = ⟨#[c]⟩ ∧ c.toNat < 128
def S22 : Am.Spec := { sig := sig22, pre := fun ⟨x0, x1, _⟩ => P22 x0 x1, res := fun ⟨x0, x1, _⟩ => [⟨Ty.str, g22_0 x0 x1⟩] }

theorem trl22 (l : List UInt8) (c : UInt8) : (Lib.trimRightB l c).length ≤ l.length := by
  unfold Lib.trimRightB
  first
  | (rw [List.length_reverse]; exact Nat.le_trans (List.dropWhile_sublist _).length_le (by rw [List.length_reverse]; exact Nat.le_refl _))
  | (simp; done)

theorem con22 : Contract Tryd.prog 22 S22 := contract_flat rfl fun w ⟨x0, x1, _⟩ vs bss hg hp hw ha => by
  obtain ⟨v0, s0, _, _, rfl, _, ⟨_, rfl, _⟩, v1, s1, _, _, rfl, _, ⟨_, rfl, _⟩, rfl, _⟩ := ha
  have hi : x0.size ≤ maxLen := hw.1
  obtain ⟨c, rfl, hc⟩ := hp
  refine ⟨fun d hd => ?_, ?_⟩
  · rw [List.mem_singleton.1 hd]
    refine ⟨rfl, ?_⟩
    show (List.toArray _).size ≤ maxLen
    rw [List.size_toArray]
    have e : x0.data.toList.length = x0.size := rfl
    have := trl22 x0.data.toList c
    show (Lib.trimRightB x0.data.toList c).length ≤ maxLen
    omega
  · refine (Tryd.strings_TrimRight_one x0 c hc w hi).mono ?_
    rintro e w' ⟨rfl, rfl⟩
    exact ⟨rfl, Kept.refl _ _⟩

end Go.Proofs.YtkokplahkiaoaaaDoor

/- Function 61 (impl.isReportLine$1): its runs between cut points. Written by a program of this repo (gen). -/
set_option linter.unusedVariables false
set_option linter.unusedSimpArgs false
set_option maxRecDepth 100000
namespace Go.Proofs.YtkokplahkiaoaaaDoor
open Go Go.Am Go.Proofs
noncomputable section
def ext61 : Ext := []
theorem ext61Ok : ExtOk Tryd.prog ext61 := trivial

noncomputable def b61 : Code := bodyOf Tryd.f61
theorem hb61 : Tryd.f61.body = some b61 := by kernel_rfl
def sig61 : List AT := [AT.v (Ty.int IntKind.u8)]
def tys61 : List Ty := [Ty.bool]
def kds61 : List RK := []
def oks61 : List AT := owns sig61
def P61 (x0 : Int) : Prop := True
def g61_0 (x0 : Int) : Bool := (if (Decidable.decide (x0 < 32)) = true then Bool.true else Decidable.decide (x0 > 126))
theorem at61 (x0 : Int) (h : P61 x0) (K : Ctx) (q : Nat → Value) : AtV Tryd.prog 61 (PostR kds61 oks61 [⟨Ty.bool, g61_0 x0⟩] [] [] q K) 9 K q [] [.code b61] (entE 0 0 sig61 (x0, ())) (entL sig61 (x0, ())) := by
  unfold P61 at h
  unfold g61_0
  by_cases b0 : (Decidable.decide (x0 < 32)) = true
  · try simp only [if_pos b0] at h ⊢
    exact AtV.ret Tryd.func61 tabOk ext61Ok mixed false [] tys61 [true] (a1 b0 trivial) (by kernel_rfl)
  · try simp only [if_neg b0] at h ⊢
    replace b0 := Bool.eq_false_iff.2 b0
    exact AtV.ret Tryd.func61 tabOk ext61Ok mixed false [] tys61 [false] (a1 b0 trivial) (by kernel_rfl)

def S61 : Am.Spec := { sig := sig61, pre := fun ⟨x0, _⟩ => P61 x0, res := fun ⟨x0, _⟩ => [⟨Ty.bool, g61_0 x0⟩], kds := kds61 }
theorem con61 : Contract Tryd.prog 61 S61 := contract_of Tryd.func61 hb61 (Nat.le_of_ble_eq_true (by kernel_rfl)) (fun ⟨x0, _⟩ h _ K q => at61 x0 h K q)


end
end Go.Proofs.YtkokplahkiaoaaaDoor

/- Function 45 (slices.IndexFunc[[]byte,byte]): its runs between cut points. Written by a program of this repo (gen). -/
set_option linter.unusedVariables false
set_option linter.unusedSimpArgs false
set_option maxRecDepth 100000
namespace Go.Proofs.YtkokplahkiaoaaaDoor
open Go Go.Am Go.Proofs
noncomputable section
def ext45c61 : Ext := [(61, S61)]
theorem call45c61_61 : Callable Tryd.prog 61 := ⟨Tryd.f61, Tryd.func61, by kernel_rfl, by kernel_rfl⟩
theorem ext45c61Ok : ExtOk Tryd.prog ext45c61 := ⟨⟨call45c61_61, con61⟩, trivial⟩

noncomputable def b45c61 : Code := bodyOf Tryd.f45
theorem hb45c61 : Tryd.f45.body = some b45c61 := by kernel_rfl
def sig45c61 : List AT := [AT.v (Ty.sl (Ty.int IntKind.u8)), AT.fn 61 []]
def tys45c61 : List Ty := [Ty.int IntKind.i64]
def kds45c61 : List RK := []
def oks45c61 : List AT := owns sig45c61
def E45c61_2 (v8 : Int) (x0 : List Int) : Env := [(0, PV.a (Atom.sl (Ty.int IntKind.u8) x0)), (1, PV.fn 61 []), (7, PV.a (Atom.val (Value.int IntKind.i64 (↑(List.length x0) : Int)))), (8, PV.a (Atom.val (Value.int IntKind.i64 v8)))]
def L45c61_2 (v8 : Int) (x0 : List Int) : Heap := []
mutual
def R45c61 : Nat → List Int → List Dyn → Prop
  | 0, _, _ => False
  | n + 1, x0, ds => (R45c61_2 n (0) (x0) ds)
def R45c61_2 : Nat → Int → List Int → List Dyn → Prop
  | 0, _, _, _ => False
  | n + 1, v8, x0, ds => (if (Decidable.decide (v8 < (↑(List.length x0) : Int))) = true then ((0 ≤ v8) ∧ (v8 < (↑(List.length x0) : Int)) ∧ (if (g61_0 (List.getD x0 (Int.toNat v8) 0)) = true then (ds = [Dyn.mk (Ty.int IntKind.i64) v8]) else ((InR IntKind.i64 (v8 + 1)) ∧ (R45c61_2 n (v8 + 1) (x0) ds)))) else (ds = [Dyn.mk (Ty.int IntKind.i64) (-1)]))
end
theorem snd45c61 : ∀ n, (∀ (x0 : List Int) ds, R45c61 n x0 ds → ∀ K q, AtV Tryd.prog 45 (PostR kds45c61 oks45c61 ds [] [] q K) 19 K q [] [.code b45c61] (entE 0 0 sig45c61 (x0, (), ())) (entL sig45c61 (x0, (), ()))) ∧ (∀ (v8 : Int) (x0 : List Int) ds, R45c61_2 n v8 x0 ds → ∀ K q, AtV Tryd.prog 45 (PostR kds45c61 oks45c61 ds [] [] q K) 19 K q [] (cutAt b45c61 2) (E45c61_2 v8 x0) (L45c61_2 v8 x0)) := by
  intro n
  induction n with
  | zero => exact ⟨fun _ _ h => by simp only [R45c61] at h, fun _ _ _ h => by simp only [R45c61_2] at h⟩
  | succ n ih =>
  obtain ⟨ih, ih2⟩ := ih
  refine ⟨?_, ?_⟩
  · intro x0 ds h K q
    rw [R45c61] at h
    exact AtV.go tabOk ext45c61Ok mixed false [] [] [0, 1, 7, 8] [] [] trivial (ih2 _ _ _ h K q) (by kernel_rfl)

  · intro v8 x0 ds h K q
    rw [R45c61_2] at h
    by_cases b0 : (Decidable.decide (v8 < (↑(List.length x0) : Int))) = true
    · rw [if_pos b0] at h
      obtain ⟨s0, s1, h⟩ := h
      by_cases b1 : (g61_0 (List.getD x0 (Int.toNat v8) 0)) = true
      · rw [if_pos b1] at h
        subst h
        exact AtV.ret Tryd.func45 tabOk ext45c61Ok mixed false [] tys45c61 [true, true] (a1 b0 (a1 s0 (a1 s1 (a1 trivial (a1 b1 trivial))))) (by kernel_rfl)
      · rw [if_neg b1] at h
        replace b1 := Bool.eq_false_iff.2 b1
        obtain ⟨s2, h⟩ := h
        exact AtV.go tabOk ext45c61Ok mixed false [] [] [0, 1, 7, 8] [] [true, false] (a1 b0 (a1 s0 (a1 s1 (a1 trivial (a1 b1 (a1 s2 trivial)))))) (ih2 _ _ _ h K q) (by kernel_rfl)
    · rw [if_neg b0] at h
      replace b0 := Bool.eq_false_iff.2 b0
      subst h
      exact AtV.ret Tryd.func45 tabOk ext45c61Ok mixed false [] tys45c61 [false] (a1 b0 trivial) (by kernel_rfl)



def g45c61_0 (x0 : List (Int)) : Int := idx (x0.findIdx? g61_0)
def P45c61 (x0 : List (Int)) : Prop := True

theorem top45c61 (x0 : List (Int)) (hm : x0.length ≤ maxLen) : R45c61 (x0.length + 1 + 1) x0 [⟨.int .i64, g45c61_0 x0⟩] := by
  rw [R45c61]
  have key := loop_find x0 (0 : Int) g61_0 [(⟨.int .i64, -1⟩ : Dyn)] (fun k => [⟨.int .i64, k⟩]) (fun n i ds => R45c61_2 n i x0 ds) (fun n => ?_) (fun n i hi hok ds hr => ?_) (fun n i hi hok => ?_)
  · unfold g45c61_0
    cases h : x0.findIdx? g61_0 <;> rw [h] at key <;> exact key
  · rw [R45c61_2, if_neg (by simp)]
  · rw [R45c61_2, if_pos (by simp; omega)]
    simp only [Int.toNat_natCast]
    refine ⟨by omega, by omega, ?_⟩
    rw [if_neg (by rw [hok]; simp)]
    exact ⟨inR_up hm hi, hr⟩
  · rw [R45c61_2, if_pos (by simp; omega)]
    simp only [Int.toNat_natCast]
    refine ⟨by omega, by omega, ?_⟩
    rw [if_pos hok] <;> trivial

def S45c61 : Am.Spec := { sig := sig45c61, pre := fun ⟨x0, _⟩ => P45c61 x0, res := fun ⟨x0, _⟩ => [⟨Ty.int .i64, g45c61_0 x0⟩] }
theorem con45c61 : Contract Tryd.prog 45 S45c61 := contract_of Tryd.func45 hb45c61 (Nat.le_of_ble_eq_true (by kernel_rfl)) (fun ⟨x0, _⟩ h hwf K q =>
  (snd45c61 _).1 x0 _ (top45c61 x0 hwf.1.1) K q)

theorem any45c61 (x0 : List (Int)) : decide (g45c61_0 x0 ≥ 0) = x0.any g61_0 := by
  have := findIdx_any g61_0 x0
  unfold g45c61_0
  cases h : x0.any g61_0 with
  | true => rw [h] at this; simpa using this
  | false => rw [h] at this; simpa using this

end
end Go.Proofs.YtkokplahkiaoaaaDoor

/- Function 30 (slices.ContainsFunc[[]byte,byte]): its runs between cut points. Written by a program of this repo (gen). -/
set_option linter.unusedVariables false
set_option linter.unusedSimpArgs false
set_option maxRecDepth 100000
namespace Go.Proofs.YtkokplahkiaoaaaDoor
open Go Go.Am Go.Proofs
noncomputable section
def ext30c61 : Ext := [(45, S45c61), (61, S61)]
theorem call30c61_45 : Callable Tryd.prog 45 := ⟨Tryd.f45, Tryd.func45, by kernel_rfl, by kernel_rfl⟩
theorem call30c61_61 : Callable Tryd.prog 61 := ⟨Tryd.f61, Tryd.func61, by kernel_rfl, by kernel_rfl⟩
theorem ext30c61Ok : ExtOk Tryd.prog ext30c61 := ⟨⟨call30c61_45, con45c61⟩, ⟨call30c61_61, con61⟩, trivial⟩

noncomputable def b30c61 : Code := bodyOf Tryd.f30
theorem hb30c61 : Tryd.f30.body = some b30c61 := by kernel_rfl
def sig30c61 : List AT := [AT.v (Ty.sl (Ty.int IntKind.u8)), AT.fn 61 []]
def tys30c61 : List Ty := [Ty.bool]
def kds30c61 : List RK := []
def oks30c61 : List AT := owns sig30c61
def P30c61 (x0 : List Int) : Prop := True
def g30c61_0 (x0 : List Int) : Bool := Decidable.decide (g45c61_0 x0 ≥ 0)
theorem at30c61 (x0 : List Int) (h : P30c61 x0) (K : Ctx) (q : Nat → Value) : AtV Tryd.prog 30 (PostR kds30c61 oks30c61 [⟨Ty.bool, g30c61_0 x0⟩] [] [] q K) 9 K q [] [.code b30c61] (entE 0 0 sig30c61 (x0, (), ())) (entL sig30c61 (x0, (), ())) := by
  unfold P30c61 at h
  unfold g30c61_0
  exact AtV.ret Tryd.func30 tabOk ext30c61Ok mixed false [] tys30c61 [] (a1 trivial trivial) (by kernel_rfl)

def S30c61 : Am.Spec := { sig := sig30c61, pre := fun ⟨x0, _⟩ => P30c61 x0, res := fun ⟨x0, _⟩ => [⟨Ty.bool, g30c61_0 x0⟩], kds := kds30c61 }
theorem con30c61 : Contract Tryd.prog 30 S30c61 := contract_of Tryd.func30 hb30c61 (Nat.le_of_ble_eq_true (by kernel_rfl)) (fun ⟨x0, _⟩ h _ K q => at30c61 x0 h K q)


end
end Go.Proofs.YtkokplahkiaoaaaDoor

/- Function 55 (impl.isReportLine): its runs between cut points. Written by a program of this repo (gen). -/
set_option linter.unusedVariables false
set_option linter.unusedSimpArgs false
set_option maxRecDepth 100000
namespace Go.Proofs.YtkokplahkiaoaaaDoor
open Go Go.Am Go.Proofs
noncomputable section
def ext55 : Ext := [(30, S30c61)]
theorem call55_30 : Callable Tryd.prog 30 := ⟨Tryd.f30, Tryd.func30, by kernel_rfl, by kernel_rfl⟩
theorem ext55Ok : ExtOk Tryd.prog ext55 := ⟨⟨call55_30, con30c61⟩, trivial⟩

noncomputable def b55 : Code := bodyOf Tryd.f55
theorem hb55 : Tryd.f55.body = some b55 := by kernel_rfl
def sig55 : List AT := [AT.v (Ty.str)]
def tys55 : List Ty := [Ty.bool]
def kds55 : List RK := []
def oks55 : List AT := owns sig55
def P55 (x0 : ByteArray) : Prop := True
def g55_0 (x0 : ByteArray) : Bool := (if (Decidable.decide ((↑(ByteArray.size x0) : Int) ≤ 100)) = true then !g30c61_0 (bytesOf x0) else Bool.false)
theorem at55 (x0 : ByteArray) (h : P55 x0) (K : Ctx) (q : Nat → Value) : AtV Tryd.prog 55 (PostR kds55 oks55 [⟨Ty.bool, g55_0 x0⟩] [] [] q K) 12 K q [] [.code b55] (entE 0 0 sig55 (x0, ())) (entL sig55 (x0, ())) := by
  unfold P55 at h
  unfold g55_0
  by_cases b0 : (Decidable.decide ((↑(ByteArray.size x0) : Int) ≤ 100)) = true
  · try simp only [if_pos b0] at h ⊢
    exact AtV.ret Tryd.func55 tabOk ext55Ok mixed false [] tys55 [true] (a1 b0 (a1 trivial trivial)) (by kernel_rfl)
  · try simp only [if_neg b0] at h ⊢
    replace b0 := Bool.eq_false_iff.2 b0
    exact AtV.ret Tryd.func55 tabOk ext55Ok mixed false [] tys55 [false] (a1 b0 trivial) (by kernel_rfl)

def S55 : Am.Spec := { sig := sig55, pre := fun ⟨x0, _⟩ => P55 x0, res := fun ⟨x0, _⟩ => [⟨Ty.bool, g55_0 x0⟩], kds := kds55 }
theorem con55 : Contract Tryd.prog 55 S55 := contract_of Tryd.func55 hb55 (Nat.le_of_ble_eq_true (by kernel_rfl)) (fun ⟨x0, _⟩ h _ K q => at55 x0 h K q)


end
end Go.Proofs.YtkokplahkiaoaaaDoor

/- Function 54 (impl.ValidReport$1): its runs between cut points. Written by a program of this repo (gen). -/
set_option linter.unusedVariables false
set_option linter.unusedSimpArgs false
set_option maxRecDepth 100000
namespace Go.Proofs.YtkokplahkiaoaaaDoor
open Go Go.Am Go.Proofs
noncomputable section
def ext54 : Ext := [(55, S55)]
theorem call54_55 : Callable Tryd.prog 55 := ⟨Tryd.f55, Tryd.func55, by kernel_rfl, by kernel_rfl⟩
theorem ext54Ok : ExtOk Tryd.prog ext54 := ⟨⟨call54_55, con55⟩, trivial⟩

noncomputable def b54 : Code := bodyOf Tryd.f54
theorem hb54 : Tryd.f54.body = some b54 := by kernel_rfl
def sig54 : List AT := [AT.v (Ty.str)]
def tys54 : List Ty := [Ty.bool]
def kds54 : List RK := []
def oks54 : List AT := owns sig54
def P54 (x0 : ByteArray) : Prop := True
def g54_0 (x0 : ByteArray) : Bool := !g55_0 x0
theorem at54 (x0 : ByteArray) (h : P54 x0) (K : Ctx) (q : Nat → Value) : AtV Tryd.prog 54 (PostR kds54 oks54 [⟨Ty.bool, g54_0 x0⟩] [] [] q K) 6 K q [] [.code b54] (entE 0 0 sig54 (x0, ())) (entL sig54 (x0, ())) := by
  unfold P54 at h
  unfold g54_0
  exact AtV.ret Tryd.func54 tabOk ext54Ok mixed false [] tys54 [] (a1 trivial trivial) (by kernel_rfl)

def S54 : Am.Spec := { sig := sig54, pre := fun ⟨x0, _⟩ => P54 x0, res := fun ⟨x0, _⟩ => [⟨Ty.bool, g54_0 x0⟩], kds := kds54 }
theorem con54 : Contract Tryd.prog 54 S54 := contract_of Tryd.func54 hb54 (Nat.le_of_ble_eq_true (by kernel_rfl)) (fun ⟨x0, _⟩ h _ K q => at54 x0 h K q)


end
end Go.Proofs.YtkokplahkiaoaaaDoor

/- Function 44 (slices.IndexFunc[[]string,string]): its runs between cut points. Written by a program of this repo (gen). -/
set_option linter.unusedVariables false
set_option linter.unusedSimpArgs false
set_option maxRecDepth 100000
namespace Go.Proofs.YtkokplahkiaoaaaDoor
open Go Go.Am Go.Proofs
noncomputable section
def ext44c54 : Ext := [(54, S54)]
theorem call44c54_54 : Callable Tryd.prog 54 := ⟨Tryd.f54, Tryd.func54, by kernel_rfl, by kernel_rfl⟩
theorem ext44c54Ok : ExtOk Tryd.prog ext44c54 := ⟨⟨call44c54_54, con54⟩, trivial⟩

noncomputable def b44c54 : Code := bodyOf Tryd.f44
theorem hb44c54 : Tryd.f44.body = some b44c54 := by kernel_rfl
def sig44c54 : List AT := [AT.v (Ty.sl Ty.str), AT.fn 54 []]
def tys44c54 : List Ty := [Ty.int IntKind.i64]
def kds44c54 : List RK := []
def oks44c54 : List AT := owns sig44c54
def E44c54_2 (v8 : Int) (x0 : List ByteArray) : Env := [(0, PV.a (Atom.sl Ty.str x0)), (1, PV.fn 54 []), (7, PV.a (Atom.val (Value.int IntKind.i64 (↑(List.length x0) : Int)))), (8, PV.a (Atom.val (Value.int IntKind.i64 v8)))]
def L44c54_2 (v8 : Int) (x0 : List ByteArray) : Heap := []
mutual
def R44c54 : Nat → List ByteArray → List Dyn → Prop
  | 0, _, _ => False
  | n + 1, x0, ds => (R44c54_2 n (0) (x0) ds)
def R44c54_2 : Nat → Int → List ByteArray → List Dyn → Prop
  | 0, _, _, _ => False
  | n + 1, v8, x0, ds => (if (Decidable.decide (v8 < (↑(List.length x0) : Int))) = true then ((0 ≤ v8) ∧ (v8 < (↑(List.length x0) : Int)) ∧ (if (g54_0 (List.getD x0 (Int.toNat v8) ByteArray.empty)) = true then (ds = [Dyn.mk (Ty.int IntKind.i64) v8]) else ((InR IntKind.i64 (v8 + 1)) ∧ (R44c54_2 n (v8 + 1) (x0) ds)))) else (ds = [Dyn.mk (Ty.int IntKind.i64) (-1)]))
end
theorem snd44c54 : ∀ n, (∀ (x0 : List ByteArray) ds, R44c54 n x0 ds → ∀ K q, AtV Tryd.prog 44 (PostR kds44c54 oks44c54 ds [] [] q K) 19 K q [] [.code b44c54] (entE 0 0 sig44c54 (x0, (), ())) (entL sig44c54 (x0, (), ()))) ∧ (∀ (v8 : Int) (x0 : List ByteArray) ds, R44c54_2 n v8 x0 ds → ∀ K q, AtV Tryd.prog 44 (PostR kds44c54 oks44c54 ds [] [] q K) 19 K q [] (cutAt b44c54 2) (E44c54_2 v8 x0) (L44c54_2 v8 x0)) := by
  intro n
  induction n with
  | zero => exact ⟨fun _ _ h => by simp only [R44c54] at h, fun _ _ _ h => by simp only [R44c54_2] at h⟩
  | succ n ih =>
  obtain ⟨ih, ih2⟩ := ih
  refine ⟨?_, ?_⟩
  · intro x0 ds h K q
    rw [R44c54] at h
    exact AtV.go tabOk ext44c54Ok mixed false [] [] [0, 1, 7, 8] [] [] trivial (ih2 _ _ _ h K q) (by kernel_rfl)

  · intro v8 x0 ds h K q
    rw [R44c54_2] at h
    by_cases b0 : (Decidable.decide (v8 < (↑(List.length x0) : Int))) = true
    · rw [if_pos b0] at h
      obtain ⟨s0, s1, h⟩ := h
      by_cases b1 : (g54_0 (List.getD x0 (Int.toNat v8) ByteArray.empty)) = true
      · rw [if_pos b1] at h
        subst h
        exact AtV.ret Tryd.func44 tabOk ext44c54Ok mixed false [] tys44c54 [true, true] (a1 b0 (a1 s0 (a1 s1 (a1 trivial (a1 b1 trivial))))) (by kernel_rfl)
      · rw [if_neg b1] at h
        replace b1 := Bool.eq_false_iff.2 b1
        obtain ⟨s2, h⟩ := h
        exact AtV.go tabOk ext44c54Ok mixed false [] [] [0, 1, 7, 8] [] [true, false] (a1 b0 (a1 s0 (a1 s1 (a1 trivial (a1 b1 (a1 s2 trivial)))))) (ih2 _ _ _ h K q) (by kernel_rfl)
    · rw [if_neg b0] at h
      replace b0 := Bool.eq_false_iff.2 b0
      subst h
      exact AtV.ret Tryd.func44 tabOk ext44c54Ok mixed false [] tys44c54 [false] (a1 b0 trivial) (by kernel_rfl)



def g44c54_0 (x0 : List (ByteArray)) : Int := idx (x0.findIdx? g54_0)
def P44c54 (x0 : List (ByteArray)) : Prop := True

theorem top44c54 (x0 : List (ByteArray)) (hm : x0.length ≤ maxLen) : R44c54 (x0.length + 1 + 1) x0 [⟨.int .i64, g44c54_0 x0⟩] := by
  rw [R44c54]
  have key := loop_find x0 ByteArray.empty g54_0 [(⟨.int .i64, -1⟩ : Dyn)] (fun k => [⟨.int .i64, k⟩]) (fun n i ds => R44c54_2 n i x0 ds) (fun n => ?_) (fun n i hi hok ds hr => ?_) (fun n i hi hok => ?_)
  · unfold g44c54_0
    cases h : x0.findIdx? g54_0 <;> rw [h] at key <;> exact key
  · rw [R44c54_2, if_neg (by simp)]
  · rw [R44c54_2, if_pos (by simp; omega)]
    simp only [Int.toNat_natCast]
    refine ⟨by omega, by omega, ?_⟩
    rw [if_neg (by rw [hok]; simp)]
    exact ⟨inR_up hm hi, hr⟩
  · rw [R44c54_2, if_pos (by simp; omega)]
    simp only [Int.toNat_natCast]
    refine ⟨by omega, by omega, ?_⟩
    rw [if_pos hok] <;> trivial

def S44c54 : Am.Spec := { sig := sig44c54, pre := fun ⟨x0, _⟩ => P44c54 x0, res := fun ⟨x0, _⟩ => [⟨Ty.int .i64, g44c54_0 x0⟩] }
theorem con44c54 : Contract Tryd.prog 44 S44c54 := contract_of Tryd.func44 hb44c54 (Nat.le_of_ble_eq_true (by kernel_rfl)) (fun ⟨x0, _⟩ h hwf K q =>
  (snd44c54 _).1 x0 _ (top44c54 x0 hwf.1.1) K q)

theorem any44c54 (x0 : List (ByteArray)) : decide (g44c54_0 x0 ≥ 0) = x0.any g54_0 := by
  have := findIdx_any g54_0 x0
  unfold g44c54_0
  cases h : x0.any g54_0 with
  | true => rw [h] at this; simpa using this
  | false => rw [h] at this; simpa using this

end
end Go.Proofs.YtkokplahkiaoaaaDoor

/- Function 28 (slices.ContainsFunc[[]string,string]): its runs between cut points. Written by a program of this repo (gen). -/
set_option linter.unusedVariables false
set_option linter.unusedSimpArgs false
set_option maxRecDepth 100000
namespace Go.Proofs.YtkokplahkiaoaaaDoor
open Go Go.Am Go.Proofs
noncomputable section
def ext28c54 : Ext := [(44, S44c54), (54, S54)]
theorem call28c54_44 : Callable Tryd.prog 44 := ⟨Tryd.f44, Tryd.func44, by kernel_rfl, by kernel_rfl⟩
theorem call28c54_54 : Callable Tryd.prog 54 := ⟨Tryd.f54, Tryd.func54, by kernel_rfl, by kernel_rfl⟩
theorem ext28c54Ok : ExtOk Tryd.prog ext28c54 := ⟨⟨call28c54_44, con44c54⟩, ⟨call28c54_54, con54⟩, trivial⟩

noncomputable def b28c54 : Code := bodyOf Tryd.f28
theorem hb28c54 : Tryd.f28.body = some b28c54 := by kernel_rfl
def sig28c54 : List AT := [AT.v (Ty.sl Ty.str), AT.fn 54 []]
def tys28c54 : List Ty := [Ty.bool]
def kds28c54 : List RK := []
def oks28c54 : List AT := owns sig28c54
def P28c54 (x0 : List ByteArray) : Prop := True
def g28c54_0 (x0 : List ByteArray) : Bool := Decidable.decide (g44c54_0 x0 ≥ 0)
theorem at28c54 (x0 : List ByteArray) (h : P28c54 x0) (K : Ctx) (q : Nat → Value) : AtV Tryd.prog 28 (PostR kds28c54 oks28c54 [⟨Ty.bool, g28c54_0 x0⟩] [] [] q K) 9 K q [] [.code b28c54] (entE 0 0 sig28c54 (x0, (), ())) (entL sig28c54 (x0, (), ())) := by
  unfold P28c54 at h
  unfold g28c54_0
  exact AtV.ret Tryd.func28 tabOk ext28c54Ok mixed false [] tys28c54 [] (a1 trivial trivial) (by kernel_rfl)

def S28c54 : Am.Spec := { sig := sig28c54, pre := fun ⟨x0, _⟩ => P28c54 x0, res := fun ⟨x0, _⟩ => [⟨Ty.bool, g28c54_0 x0⟩], kds := kds28c54 }
theorem con28c54 : Contract Tryd.prog 28 S28c54 := contract_of Tryd.func28 hb28c54 (Nat.le_of_ble_eq_true (by kernel_rfl)) (fun ⟨x0, _⟩ h _ K q => at28c54 x0 h K q)


end
end Go.Proofs.YtkokplahkiaoaaaDoor

/- Function 42 (impl.ValidReport): its runs between cut points. Written by a program of this repo (gen). -/
set_option linter.unusedVariables false
set_option linter.unusedSimpArgs false
set_option maxRecDepth 100000
namespace Go.Proofs.YtkokplahkiaoaaaDoor
open Go Go.Am Go.Proofs
noncomputable section
def ext42 : Ext := [(28, S28c54)]
theorem call42_28 : Callable Tryd.prog 28 := ⟨Tryd.f28, Tryd.func28, by kernel_rfl, by kernel_rfl⟩
theorem ext42Ok : ExtOk Tryd.prog ext42 := ⟨⟨call42_28, con28c54⟩, trivial⟩

noncomputable def b42 : Code := bodyOf Tryd.f42
theorem hb42 : Tryd.f42.body = some b42 := by kernel_rfl
def sig42 : List AT := [AT.v (Ty.sl Ty.str)]
def tys42 : List Ty := [Ty.bool]
def kds42 : List RK := []
def oks42 : List AT := owns sig42
def P42 (x0 : List ByteArray) : Prop := True
def g42_0 (x0 : List ByteArray) : Bool := (if (Decidable.decide ((↑(List.length x0) : Int) ≤ 200)) = true then !g28c54_0 x0 else Bool.false)
theorem at42 (x0 : List ByteArray) (h : P42 x0) (K : Ctx) (q : Nat → Value) : AtV Tryd.prog 42 (PostR kds42 oks42 [⟨Ty.bool, g42_0 x0⟩] [] [] q K) 11 K q [] [.code b42] (entE 0 0 sig42 (x0, ())) (entL sig42 (x0, ())) := by
  unfold P42 at h
  unfold g42_0
  by_cases b0 : (Decidable.decide ((↑(List.length x0) : Int) ≤ 200)) = true
  · try simp only [if_pos b0] at h ⊢
    exact AtV.ret Tryd.func42 tabOk ext42Ok mixed false [] tys42 [true] (a1 b0 (a1 trivial trivial)) (by kernel_rfl)
  · try simp only [if_neg b0] at h ⊢
    replace b0 := Bool.eq_false_iff.2 b0
    exact AtV.ret Tryd.func42 tabOk ext42Ok mixed false [] tys42 [false] (a1 b0 trivial) (by kernel_rfl)

def S42 : Am.Spec := { sig := sig42, pre := fun ⟨x0, _⟩ => P42 x0, res := fun ⟨x0, _⟩ => [⟨Ty.bool, g42_0 x0⟩], kds := kds42 }
theorem con42 : Contract Tryd.prog 42 S42 := contract_of Tryd.func42 hb42 (Nat.le_of_ble_eq_true (by kernel_rfl)) (fun ⟨x0, _⟩ h _ K q => at42 x0 h K q)


end
end Go.Proofs.YtkokplahkiaoaaaDoor

/- Function 24 (impl.orFull): its runs between cut points. Written by a program of this repo (gen). -/
set_option linter.unusedVariables false
set_option linter.unusedSimpArgs false
set_option maxRecDepth 100000
namespace Go.Proofs.YtkokplahkiaoaaaDoor
open Go Go.Am Go.Proofs
noncomputable section
def ext24 : Ext := [(42, S42)]
theorem call24_42 : Callable Tryd.prog 42 := ⟨Tryd.f42, Tryd.func42, by kernel_rfl, by kernel_rfl⟩
theorem ext24Ok : ExtOk Tryd.prog ext24 := ⟨⟨call24_42, con42⟩, trivial⟩

noncomputable def b24 : Code := bodyOf Tryd.f24
theorem hb24 : Tryd.f24.body = some b24 := by kernel_rfl
def sig24 : List AT := [AT.own Ty.str]
def tys24 : List Ty := [Ty.sl Ty.str, Ty.int IntKind.i64]
def kds24 : List RK := []
def oks24 : List AT := owns sig24
def P24 (x0 : List ByteArray) : Prop := True
def g24_0 (x0 : List ByteArray) : List ByteArray := (if (!g42_0 x0) = true then [] else x0)
def g24_1 (x0 : List ByteArray) : Int := (if (!g42_0 x0) = true then 5 else 0)
theorem at24 (x0 : List ByteArray) (h : P24 x0) (K : Ctx) (q : Nat → Value) : AtV Tryd.prog 24 (PostR kds24 oks24 [⟨Ty.sl Ty.str, g24_0 x0⟩, ⟨Ty.int IntKind.i64, g24_1 x0⟩] [none] [0] q K) 8 K q [0] [.code b24] (entE 0 0 sig24 (x0, ())) (entL sig24 (x0, ())) := by
  unfold P24 at h
  unfold g24_0 g24_1
  by_cases b0 : (!g42_0 x0) = true
  · try simp only [if_pos b0] at h ⊢
    exact AtV.weak (AtV.ret (us := [Option.some (Lst.mk Ty.str x0)]) Tryd.func24 tabOk ext24Ok mixed false [] tys24 [true] (a1 trivial (a1 b0 trivial)) (by kernel_rfl)) ⟨.inr rfl, trivial⟩
  · try simp only [if_neg b0] at h ⊢
    replace b0 := Bool.eq_false_iff.2 b0
    exact AtV.weak (AtV.ret (us := [Option.none]) Tryd.func24 tabOk ext24Ok mixed false [] tys24 [false] (a1 trivial (a1 b0 trivial)) (by kernel_rfl)) ⟨.inr rfl, trivial⟩

def S24 : Am.Spec := { sig := sig24, pre := fun ⟨x0, _⟩ => P24 x0, upd := fun ⟨x0, _⟩ => [none], res := fun ⟨x0, _⟩ => [⟨Ty.sl Ty.str, g24_0 x0⟩, ⟨Ty.int IntKind.i64, g24_1 x0⟩], kds := kds24 }
theorem con24 : Contract Tryd.prog 24 S24 := contract_of Tryd.func24 hb24 (Nat.le_of_ble_eq_true (by kernel_rfl)) (fun ⟨x0, _⟩ h _ K q => at24 x0 h K q)


end
end Go.Proofs.YtkokplahkiaoaaaDoor

/- Function 31 (impl.areCells$1$1): its runs between cut points. Written by a program of this repo (gen). -/
set_option linter.unusedVariables false
set_option linter.unusedSimpArgs false
set_option maxRecDepth 100000
namespace Go.Proofs.YtkokplahkiaoaaaDoor
open Go Go.Am Go.Proofs
noncomputable section
def ext31 : Ext := []
theorem ext31Ok : ExtOk Tryd.prog ext31 := trivial

noncomputable def b31 : Code := bodyOf Tryd.f31
theorem hb31 : Tryd.f31.body = some b31 := by kernel_rfl
def sig31 : List AT := [AT.v (Ty.int IntKind.u8)]
def tys31 : List Ty := [Ty.bool]
def kds31 : List RK := []
def oks31 : List AT := owns sig31
def P31 (x0 : Int) : Prop := True
def g31_0 (x0 : Int) : Bool := (if (Decidable.decide (x0 < 33)) = true then Bool.true else Decidable.decide (x0 > 126))
theorem at31 (x0 : Int) (h : P31 x0) (K : Ctx) (q : Nat → Value) : AtV Tryd.prog 31 (PostR kds31 oks31 [⟨Ty.bool, g31_0 x0⟩] [] [] q K) 9 K q [] [.code b31] (entE 0 0 sig31 (x0, ())) (entL sig31 (x0, ())) := by
  unfold P31 at h
  unfold g31_0
  by_cases b0 : (Decidable.decide (x0 < 33)) = true
  · try simp only [if_pos b0] at h ⊢
    exact AtV.ret Tryd.func31 tabOk ext31Ok mixed false [] tys31 [true] (a1 b0 trivial) (by kernel_rfl)
  · try simp only [if_neg b0] at h ⊢
    replace b0 := Bool.eq_false_iff.2 b0
    exact AtV.ret Tryd.func31 tabOk ext31Ok mixed false [] tys31 [false] (a1 b0 trivial) (by kernel_rfl)

def S31 : Am.Spec := { sig := sig31, pre := fun ⟨x0, _⟩ => P31 x0, res := fun ⟨x0, _⟩ => [⟨Ty.bool, g31_0 x0⟩], kds := kds31 }
theorem con31 : Contract Tryd.prog 31 S31 := contract_of Tryd.func31 hb31 (Nat.le_of_ble_eq_true (by kernel_rfl)) (fun ⟨x0, _⟩ h _ K q => at31 x0 h K q)


end
end Go.Proofs.YtkokplahkiaoaaaDoor

/- Function 45 (slices.IndexFunc[[]byte,byte]): its runs between cut points. Written by a program of this repo (gen). -/
set_option linter.unusedVariables false
set_option linter.unusedSimpArgs false
set_option maxRecDepth 100000
namespace Go.Proofs.YtkokplahkiaoaaaDoor
open Go Go.Am Go.Proofs
noncomputable section
def ext45c31 : Ext := [(31, S31)]
theorem call45c31_31 : Callable Tryd.prog 31 := ⟨Tryd.f31, Tryd.func31, by kernel_rfl, by kernel_rfl⟩
theorem ext45c31Ok : ExtOk Tryd.prog ext45c31 := ⟨⟨call45c31_31, con31⟩, trivial⟩

noncomputable def b45c31 : Code := bodyOf Tryd.f45
theorem hb45c31 : Tryd.f45.body = some b45c31 := by kernel_rfl
def sig45c31 : List AT := [AT.v (Ty.sl (Ty.int IntKind.u8)), AT.fn 31 []]
def tys45c31 : List Ty := [Ty.int IntKind.i64]
def kds45c31 : List RK := []
def oks45c31 : List AT := owns sig45c31
def E45c31_2 (v8 : Int) (x0 : List Int) : Env := [(0, PV.a (Atom.sl (Ty.int IntKind.u8) x0)), (1, PV.fn 31 []), (7, PV.a (Atom.val (Value.int IntKind.i64 (↑(List.length x0) : Int)))), (8, PV.a (Atom.val (Value.int IntKind.i64 v8)))]
def L45c31_2 (v8 : Int) (x0 : List Int) : Heap := []
mutual
def R45c31 : Nat → List Int → List Dyn → Prop
  | 0, _, _ => False
  | n + 1, x0, ds => (R45c31_2 n (0) (x0) ds)
def R45c31_2 : Nat → Int → List Int → List Dyn → Prop
  | 0, _, _, _ => False
  | n + 1, v8, x0, ds => (if (Decidable.decide (v8 < (↑(List.length x0) : Int))) = true then ((0 ≤ v8) ∧ (v8 < (↑(List.length x0) : Int)) ∧ (if (g31_0 (List.getD x0 (Int.toNat v8) 0)) = true then (ds = [Dyn.mk (Ty.int IntKind.i64) v8]) else ((InR IntKind.i64 (v8 + 1)) ∧ (R45c31_2 n (v8 + 1) (x0) ds)))) else (ds = [Dyn.mk (Ty.int IntKind.i64) (-1)]))
end
theorem snd45c31 : ∀ n, (∀ (x0 : List Int) ds, R45c31 n x0 ds → ∀ K q, AtV Tryd.prog 45 (PostR kds45c31 oks45c31 ds [] [] q K) 19 K q [] [.code b45c31] (entE 0 0 sig45c31 (x0, (), ())) (entL sig45c31 (x0, (), ()))) ∧ (∀ (v8 : Int) (x0 : List Int) ds, R45c31_2 n v8 x0 ds → ∀ K q, AtV Tryd.prog 45 (PostR kds45c31 oks45c31 ds [] [] q K) 19 K q [] (cutAt b45c31 2) (E45c31_2 v8 x0) (L45c31_2 v8 x0)) := by
  intro n
  induction n with
  | zero => exact ⟨fun _ _ h => by simp only [R45c31] at h, fun _ _ _ h => by simp only [R45c31_2] at h⟩
  | succ n ih =>
  obtain ⟨ih, ih2⟩ := ih
  refine ⟨?_, ?_⟩
  · intro x0 ds h K q
    rw [R45c31] at h
    exact AtV.go tabOk ext45c31Ok mixed false [] [] [0, 1, 7, 8] [] [] trivial (ih2 _ _ _ h K q) (by kernel_rfl)

  · intro v8 x0 ds h K q
    rw [R45c31_2] at h
    by_cases b0 : (Decidable.decide (v8 < (↑(List.length x0) : Int))) = true
    · rw [if_pos b0] at h
      obtain ⟨s0, s1, h⟩ := h
      by_cases b1 : (g31_0 (List.getD x0 (Int.toNat v8) 0)) = true
      · rw [if_pos b1] at h
        subst h
        exact AtV.ret Tryd.func45 tabOk ext45c31Ok mixed false [] tys45c31 [true, true] (a1 b0 (a1 s0 (a1 s1 (a1 trivial (a1 b1 trivial))))) (by kernel_rfl)
      · rw [if_neg b1] at h
        replace b1 := Bool.eq_false_iff.2 b1
        obtain ⟨s2, h⟩ := h
        exact AtV.go tabOk ext45c31Ok mixed false [] [] [0, 1, 7, 8] [] [true, false] (a1 b0 (a1 s0 (a1 s1 (a1 trivial (a1 b1 (a1 s2 trivial)))))) (ih2 _ _ _ h K q) (by kernel_rfl)
    · rw [if_neg b0] at h
      replace b0 := Bool.eq_false_iff.2 b0
      subst h
      exact AtV.ret Tryd.func45 tabOk ext45c31Ok mixed false [] tys45c31 [false] (a1 b0 trivial) (by kernel_rfl)



def g45c31_0 (x0 : List (Int)) : Int := idx (x0.findIdx? g31_0)
def P45c31 (x0 : List (Int)) : Prop := True

theorem top45c31 (x0 : List (Int)) (hm : x0.length ≤ maxLen) : R45c31 (x0.length + 1 + 1) x0 [⟨.int .i64, g45c31_0 x0⟩] := by
  rw [R45c31]
  have key := loop_find x0 (0 : Int) g31_0 [(⟨.int .i64, -1⟩ : Dyn)] (fun k => [⟨.int .i64, k⟩]) (fun n i ds => R45c31_2 n i x0 ds) (fun n => ?_) (fun n i hi hok ds hr => ?_) (fun n i hi hok => ?_)
  · unfold g45c31_0
    cases h : x0.findIdx? g31_0 <;> rw [h] at key <;> exact key
  · rw [R45c31_2, if_neg (by simp)]
  · rw [R45c31_2, if_pos (by simp; omega)]
    simp only [Int.toNat_natCast]
    refine ⟨by omega, by omega, ?_⟩
    rw [if_neg (by rw [hok]; simp)]
    exact ⟨inR_up hm hi, hr⟩
  · rw [R45c31_2, if_pos (by simp; omega)]
    simp only [Int.toNat_natCast]
    refine ⟨by omega, by omega, ?_⟩
    rw [if_pos hok] <;> trivial

def S45c31 : Am.Spec := { sig := sig45c31, pre := fun ⟨x0, _⟩ => P45c31 x0, res := fun ⟨x0, _⟩ => [⟨Ty.int .i64, g45c31_0 x0⟩] }
theorem con45c31 : Contract Tryd.prog 45 S45c31 := contract_of Tryd.func45 hb45c31 (Nat.le_of_ble_eq_true (by kernel_rfl)) (fun ⟨x0, _⟩ h hwf K q =>
  (snd45c31 _).1 x0 _ (top45c31 x0 hwf.1.1) K q)

theorem any45c31 (x0 : List (Int)) : decide (g45c31_0 x0 ≥ 0) = x0.any g31_0 := by
  have := findIdx_any g31_0 x0
  unfold g45c31_0
  cases h : x0.any g31_0 with
  | true => rw [h] at this; simpa using this
  | false => rw [h] at this; simpa using this

end
end Go.Proofs.YtkokplahkiaoaaaDoor

/- Function 30 (slices.ContainsFunc[[]byte,byte]): its runs between cut points. Written by a program of this repo (gen). -/
set_option linter.unusedVariables false
set_option linter.unusedSimpArgs false
set_option maxRecDepth 100000
namespace Go.Proofs.YtkokplahkiaoaaaDoor
open Go Go.Am Go.Proofs
noncomputable section
def ext30c31 : Ext := [(45, S45c31), (31, S31)]
theorem call30c31_45 : Callable Tryd.prog 45 := ⟨Tryd.f45, Tryd.func45, by kernel_rfl, by kernel_rfl⟩
theorem call30c31_31 : Callable Tryd.prog 31 := ⟨Tryd.f31, Tryd.func31, by kernel_rfl, by kernel_rfl⟩
theorem ext30c31Ok : ExtOk Tryd.prog ext30c31 := ⟨⟨call30c31_45, con45c31⟩, ⟨call30c31_31, con31⟩, trivial⟩

noncomputable def b30c31 : Code := bodyOf Tryd.f30
theorem hb30c31 : Tryd.f30.body = some b30c31 := by kernel_rfl
def sig30c31 : List AT := [AT.v (Ty.sl (Ty.int IntKind.u8)), AT.fn 31 []]
def tys30c31 : List Ty := [Ty.bool]
def kds30c31 : List RK := []
def oks30c31 : List AT := owns sig30c31
def P30c31 (x0 : List Int) : Prop := True
def g30c31_0 (x0 : List Int) : Bool := Decidable.decide (g45c31_0 x0 ≥ 0)
theorem at30c31 (x0 : List Int) (h : P30c31 x0) (K : Ctx) (q : Nat → Value) : AtV Tryd.prog 30 (PostR kds30c31 oks30c31 [⟨Ty.bool, g30c31_0 x0⟩] [] [] q K) 9 K q [] [.code b30c31] (entE 0 0 sig30c31 (x0, (), ())) (entL sig30c31 (x0, (), ())) := by
  unfold P30c31 at h
  unfold g30c31_0
  exact AtV.ret Tryd.func30 tabOk ext30c31Ok mixed false [] tys30c31 [] (a1 trivial trivial) (by kernel_rfl)

def S30c31 : Am.Spec := { sig := sig30c31, pre := fun ⟨x0, _⟩ => P30c31 x0, res := fun ⟨x0, _⟩ => [⟨Ty.bool, g30c31_0 x0⟩], kds := kds30c31 }
theorem con30c31 : Contract Tryd.prog 30 S30c31 := contract_of Tryd.func30 hb30c31 (Nat.le_of_ble_eq_true (by kernel_rfl)) (fun ⟨x0, _⟩ h _ K q => at30c31 x0 h K q)


end
end Go.Proofs.YtkokplahkiaoaaaDoor

/- Function 29 (impl.areCells$1): its runs between cut points. Written by a program of this repo (gen). -/
set_option linter.unusedVariables false
set_option linter.unusedSimpArgs false
set_option maxRecDepth 100000
namespace Go.Proofs.YtkokplahkiaoaaaDoor
open Go Go.Am Go.Proofs
noncomputable section
def ext29 : Ext := [(30, S30c31)]
theorem call29_30 : Callable Tryd.prog 30 := ⟨Tryd.f30, Tryd.func30, by kernel_rfl, by kernel_rfl⟩
theorem ext29Ok : ExtOk Tryd.prog ext29 := ⟨⟨call29_30, con30c31⟩, trivial⟩

noncomputable def b29 : Code := bodyOf Tryd.f29
theorem hb29 : Tryd.f29.body = some b29 := by kernel_rfl
def sig29 : List AT := [AT.v (Ty.str)]
def tys29 : List Ty := [Ty.bool]
def kds29 : List RK := []
def oks29 : List AT := owns sig29
def P29 (x0 : ByteArray) : Prop := True
def g29_0 (x0 : ByteArray) : Bool := g30c31_0 (bytesOf x0)
theorem at29 (x0 : ByteArray) (h : P29 x0) (K : Ctx) (q : Nat → Value) : AtV Tryd.prog 29 (PostR kds29 oks29 [⟨Ty.bool, g29_0 x0⟩] [] [] q K) 6 K q [] [.code b29] (entE 0 0 sig29 (x0, ())) (entL sig29 (x0, ())) := by
  unfold P29 at h
  unfold g29_0
  exact AtV.ret Tryd.func29 tabOk ext29Ok mixed false [] tys29 [] (a1 trivial trivial) (by kernel_rfl)

def S29 : Am.Spec := { sig := sig29, pre := fun ⟨x0, _⟩ => P29 x0, res := fun ⟨x0, _⟩ => [⟨Ty.bool, g29_0 x0⟩], kds := kds29 }
theorem con29 : Contract Tryd.prog 29 S29 := contract_of Tryd.func29 hb29 (Nat.le_of_ble_eq_true (by kernel_rfl)) (fun ⟨x0, _⟩ h _ K q => at29 x0 h K q)


end
end Go.Proofs.YtkokplahkiaoaaaDoor

/- Function 44 (slices.IndexFunc[[]string,string]): its runs between cut points. Written by a program of this repo (gen). -/
set_option linter.unusedVariables false
set_option linter.unusedSimpArgs false
set_option maxRecDepth 100000
namespace Go.Proofs.YtkokplahkiaoaaaDoor
open Go Go.Am Go.Proofs
noncomputable section
def ext44c29 : Ext := [(29, S29)]
theorem call44c29_29 : Callable Tryd.prog 29 := ⟨Tryd.f29, Tryd.func29, by kernel_rfl, by kernel_rfl⟩
theorem ext44c29Ok : ExtOk Tryd.prog ext44c29 := ⟨⟨call44c29_29, con29⟩, trivial⟩

noncomputable def b44c29 : Code := bodyOf Tryd.f44
theorem hb44c29 : Tryd.f44.body = some b44c29 := by kernel_rfl
def sig44c29 : List AT := [AT.v (Ty.sl Ty.str), AT.fn 29 []]
def tys44c29 : List Ty := [Ty.int IntKind.i64]
def kds44c29 : List RK := []
def oks44c29 : List AT := owns sig44c29
def E44c29_2 (v8 : Int) (x0 : List ByteArray) : Env := [(0, PV.a (Atom.sl Ty.str x0)), (1, PV.fn 29 []), (7, PV.a (Atom.val (Value.int IntKind.i64 (↑(List.length x0) : Int)))), (8, PV.a (Atom.val (Value.int IntKind.i64 v8)))]
def L44c29_2 (v8 : Int) (x0 : List ByteArray) : Heap := []
mutual
def R44c29 : Nat → List ByteArray → List Dyn → Prop
  | 0, _, _ => False
  | n + 1, x0, ds => (R44c29_2 n (0) (x0) ds)
def R44c29_2 : Nat → Int → List ByteArray → List Dyn → Prop
  | 0, _, _, _ => False
  | n + 1, v8, x0, ds => (if (Decidable.decide (v8 < (↑(List.length x0) : Int))) = true then ((0 ≤ v8) ∧ (v8 < (↑(List.length x0) : Int)) ∧ (if (g29_0 (List.getD x0 (Int.toNat v8) ByteArray.empty)) = true then (ds = [Dyn.mk (Ty.int IntKind.i64) v8]) else ((InR IntKind.i64 (v8 + 1)) ∧ (R44c29_2 n (v8 + 1) (x0) ds)))) else (ds = [Dyn.mk (Ty.int IntKind.i64) (-1)]))
end
theorem snd44c29 : ∀ n, (∀ (x0 : List ByteArray) ds, R44c29 n x0 ds → ∀ K q, AtV Tryd.prog 44 (PostR kds44c29 oks44c29 ds [] [] q K) 19 K q [] [.code b44c29] (entE 0 0 sig44c29 (x0, (), ())) (entL sig44c29 (x0, (), ()))) ∧ (∀ (v8 : Int) (x0 : List ByteArray) ds, R44c29_2 n v8 x0 ds → ∀ K q, AtV Tryd.prog 44 (PostR kds44c29 oks44c29 ds [] [] q K) 19 K q [] (cutAt b44c29 2) (E44c29_2 v8 x0) (L44c29_2 v8 x0)) := by
  intro n
  induction n with
  | zero => exact ⟨fun _ _ h => by simp only [R44c29] at h, fun _ _ _ h => by simp only [R44c29_2] at h⟩
  | succ n ih =>
  obtain ⟨ih, ih2⟩ := ih
  refine ⟨?_, ?_⟩
  · intro x0 ds h K q
    rw [R44c29] at h
    exact AtV.go tabOk ext44c29Ok mixed false [] [] [0, 1, 7, 8] [] [] trivial (ih2 _ _ _ h K q) (by kernel_rfl)

  · intro v8 x0 ds h K q
    rw [R44c29_2] at h
    by_cases b0 : (Decidable.decide (v8 < (↑(List.length x0) : Int))) = true
    · rw [if_pos b0] at h
      obtain ⟨s0, s1, h⟩ := h
      by_cases b1 : (g29_0 (List.getD x0 (Int.toNat v8) ByteArray.empty)) = true
      · rw [if_pos b1] at h
        subst h
        exact AtV.ret Tryd.func44 tabOk ext44c29Ok mixed false [] tys44c29 [true, true] (a1 b0 (a1 s0 (a1 s1 (a1 trivial (a1 b1 trivial))))) (by kernel_rfl)
      · rw [if_neg b1] at h
        replace b1 := Bool.eq_false_iff.2 b1
        obtain ⟨s2, h⟩ := h
        exact AtV.go tabOk ext44c29Ok mixed false [] [] [0, 1, 7, 8] [] [true, false] (a1 b0 (a1 s0 (a1 s1 (a1 trivial (a1 b1 (a1 s2 trivial)))))) (ih2 _ _ _ h K q) (by kernel_rfl)
    · rw [if_neg b0] at h
      replace b0 := Bool.eq_false_iff.2 b0
      subst h
      exact AtV.ret Tryd.func44 tabOk ext44c29Ok mixed false [] tys44c29 [false] (a1 b0 trivial) (by kernel_rfl)



def g44c29_0 (x0 : List (ByteArray)) : Int := idx (x0.findIdx? g29_0)
def P44c29 (x0 : List (ByteArray)) : Prop := True

theorem top44c29 (x0 : List (ByteArray)) (hm : x0.length ≤ maxLen) : R44c29 (x0.length + 1 + 1) x0 [⟨.int .i64, g44c29_0 x0⟩] := by
  rw [R44c29]
  have key := loop_find x0 ByteArray.empty g29_0 [(⟨.int .i64, -1⟩ : Dyn)] (fun k => [⟨.int .i64, k⟩]) (fun n i ds => R44c29_2 n i x0 ds) (fun n => ?_) (fun n i hi hok ds hr => ?_) (fun n i hi hok => ?_)
  · unfold g44c29_0
    cases h : x0.findIdx? g29_0 <;> rw [h] at key <;> exact key
  · rw [R44c29_2, if_neg (by simp)]
  · rw [R44c29_2, if_pos (by simp; omega)]
    simp only [Int.toNat_natCast]
    refine ⟨by omega, by omega, ?_⟩
    rw [if_neg (by rw [hok]; simp)]
    exact ⟨inR_up hm hi, hr⟩
  · rw [R44c29_2, if_pos (by simp; omega)]
    simp only [Int.toNat_natCast]
    refine ⟨by omega, by omega, ?_⟩
    rw [if_pos hok] <;> trivial

def S44c29 : Am.Spec := { sig := sig44c29, pre := fun ⟨x0, _⟩ => P44c29 x0, res := fun ⟨x0, _⟩ => [⟨Ty.int .i64, g44c29_0 x0⟩] }
theorem con44c29 : Contract Tryd.prog 44 S44c29 := contract_of Tryd.func44 hb44c29 (Nat.le_of_ble_eq_true (by kernel_rfl)) (fun ⟨x0, _⟩ h hwf K q =>
  (snd44c29 _).1 x0 _ (top44c29 x0 hwf.1.1) K q)

theorem any44c29 (x0 : List (ByteArray)) : decide (g44c29_0 x0 ≥ 0) = x0.any g29_0 := by
  have := findIdx_any g29_0 x0
  unfold g44c29_0
  cases h : x0.any g29_0 with
  | true => rw [h] at this; simpa using this
  | false => rw [h] at this; simpa using this

end
end Go.Proofs.YtkokplahkiaoaaaDoor

/- Function 28 (slices.ContainsFunc[[]string,string]): its runs between cut points. Written by a program of this repo (gen). -/
set_option linter.unusedVariables false
set_option linter.unusedSimpArgs false
set_option maxRecDepth 100000
namespace Go.Proofs.YtkokplahkiaoaaaDoor
open Go Go.Am Go.Proofs
noncomputable section
def ext28c29 : Ext := [(44, S44c29), (29, S29)]
theorem call28c29_44 : Callable Tryd.prog 44 := ⟨Tryd.f44, Tryd.func44, by kernel_rfl, by kernel_rfl⟩
theorem call28c29_29 : Callable Tryd.prog 29 := ⟨Tryd.f29, Tryd.func29, by kernel_rfl, by kernel_rfl⟩
theorem ext28c29Ok : ExtOk Tryd.prog ext28c29 := ⟨⟨call28c29_44, con44c29⟩, ⟨call28c29_29, con29⟩, trivial⟩

noncomputable def b28c29 : Code := bodyOf Tryd.f28
theorem hb28c29 : Tryd.f28.body = some b28c29 := by kernel_rfl
def sig28c29 : List AT := [AT.v (Ty.sl Ty.str), AT.fn 29 []]
def tys28c29 : List Ty := [Ty.bool]
def kds28c29 : List RK := []
def oks28c29 : List AT := owns sig28c29
def P28c29 (x0 : List ByteArray) : Prop := True
def g28c29_0 (x0 : List ByteArray) : Bool := Decidable.decide (g44c29_0 x0 ≥ 0)
theorem at28c29 (x0 : List ByteArray) (h : P28c29 x0) (K : Ctx) (q : Nat → Value) : AtV Tryd.prog 28 (PostR kds28c29 oks28c29 [⟨Ty.bool, g28c29_0 x0⟩] [] [] q K) 9 K q [] [.code b28c29] (entE 0 0 sig28c29 (x0, (), ())) (entL sig28c29 (x0, (), ())) := by
  unfold P28c29 at h
  unfold g28c29_0
  exact AtV.ret Tryd.func28 tabOk ext28c29Ok mixed false [] tys28c29 [] (a1 trivial trivial) (by kernel_rfl)

def S28c29 : Am.Spec := { sig := sig28c29, pre := fun ⟨x0, _⟩ => P28c29 x0, res := fun ⟨x0, _⟩ => [⟨Ty.bool, g28c29_0 x0⟩], kds := kds28c29 }
theorem con28c29 : Contract Tryd.prog 28 S28c29 := contract_of Tryd.func28 hb28c29 (Nat.le_of_ble_eq_true (by kernel_rfl)) (fun ⟨x0, _⟩ h _ K q => at28c29 x0 h K q)


end
end Go.Proofs.YtkokplahkiaoaaaDoor

/- Function 20 (impl.areCells): its runs between cut points. Written by a program of this repo (gen). -/
set_option linter.unusedVariables false
set_option linter.unusedSimpArgs false
set_option maxRecDepth 100000
namespace Go.Proofs.YtkokplahkiaoaaaDoor
open Go Go.Am Go.Proofs
noncomputable section
def ext20 : Ext := [(28, S28c29)]
theorem call20_28 : Callable Tryd.prog 28 := ⟨Tryd.f28, Tryd.func28, by kernel_rfl, by kernel_rfl⟩
theorem ext20Ok : ExtOk Tryd.prog ext20 := ⟨⟨call20_28, con28c29⟩, trivial⟩

noncomputable def b20 : Code := bodyOf Tryd.f20
theorem hb20 : Tryd.f20.body = some b20 := by kernel_rfl
def sig20 : List AT := [AT.v (Ty.sl Ty.str)]
def tys20 : List Ty := [Ty.bool]
def kds20 : List RK := []
def oks20 : List AT := owns sig20
def P20 (x0 : List ByteArray) : Prop := True
def g20_0 (x0 : List ByteArray) : Bool := (if (Decidable.decide ((↑(List.length x0) : Int) ≤ 12)) = true then !g28c29_0 x0 else Bool.false)
theorem at20 (x0 : List ByteArray) (h : P20 x0) (K : Ctx) (q : Nat → Value) : AtV Tryd.prog 20 (PostR kds20 oks20 [⟨Ty.bool, g20_0 x0⟩] [] [] q K) 11 K q [] [.code b20] (entE 0 0 sig20 (x0, ())) (entL sig20 (x0, ())) := by
  unfold P20 at h
  unfold g20_0
  by_cases b0 : (Decidable.decide ((↑(List.length x0) : Int) ≤ 12)) = true
  · try simp only [if_pos b0] at h ⊢
    exact AtV.ret Tryd.func20 tabOk ext20Ok mixed false [] tys20 [true] (a1 b0 (a1 trivial trivial)) (by kernel_rfl)
  · try simp only [if_neg b0] at h ⊢
    replace b0 := Bool.eq_false_iff.2 b0
    exact AtV.ret Tryd.func20 tabOk ext20Ok mixed false [] tys20 [false] (a1 b0 trivial) (by kernel_rfl)

def S20 : Am.Spec := { sig := sig20, pre := fun ⟨x0, _⟩ => P20 x0, res := fun ⟨x0, _⟩ => [⟨Ty.bool, g20_0 x0⟩], kds := kds20 }
theorem con20 : Contract Tryd.prog 20 S20 := contract_of Tryd.func20 hb20 (Nat.le_of_ble_eq_true (by kernel_rfl)) (fun ⟨x0, _⟩ h _ K q => at20 x0 h K q)


end
end Go.Proofs.YtkokplahkiaoaaaDoor

/- Function 19 (impl.TableLines$1): its runs between cut points. Written by a program of this repo (gen). -/
set_option linter.unusedVariables false
set_option linter.unusedSimpArgs false
set_option maxRecDepth 100000
namespace Go.Proofs.YtkokplahkiaoaaaDoor
open Go Go.Am Go.Proofs
noncomputable section
def ext19 : Ext := [(20, S20)]
theorem call19_20 : Callable Tryd.prog 20 := ⟨Tryd.f20, Tryd.func20, by kernel_rfl, by kernel_rfl⟩
theorem ext19Ok : ExtOk Tryd.prog ext19 := ⟨⟨call19_20, con20⟩, trivial⟩

noncomputable def b19 : Code := bodyOf Tryd.f19
theorem hb19 : Tryd.f19.body = some b19 := by kernel_rfl
def sig19 : List AT := [AT.v (Ty.sl Ty.str)]
def tys19 : List Ty := [Ty.bool]
def kds19 : List RK := []
def oks19 : List AT := owns sig19
def P19 (x0 : List ByteArray) : Prop := True
def g19_0 (x0 : List ByteArray) : Bool := !g20_0 x0
theorem at19 (x0 : List ByteArray) (h : P19 x0) (K : Ctx) (q : Nat → Value) : AtV Tryd.prog 19 (PostR kds19 oks19 [⟨Ty.bool, g19_0 x0⟩] [] [] q K) 6 K q [] [.code b19] (entE 0 0 sig19 (x0, ())) (entL sig19 (x0, ())) := by
  unfold P19 at h
  unfold g19_0
  exact AtV.ret Tryd.func19 tabOk ext19Ok mixed false [] tys19 [] (a1 trivial trivial) (by kernel_rfl)

def S19 : Am.Spec := { sig := sig19, pre := fun ⟨x0, _⟩ => P19 x0, res := fun ⟨x0, _⟩ => [⟨Ty.bool, g19_0 x0⟩], kds := kds19 }
theorem con19 : Contract Tryd.prog 19 S19 := contract_of Tryd.func19 hb19 (Nat.le_of_ble_eq_true (by kernel_rfl)) (fun ⟨x0, _⟩ h _ K q => at19 x0 h K q)


end
end Go.Proofs.YtkokplahkiaoaaaDoor

/- Function 27 (slices.IndexFunc[[][]string,[]string]): its runs between cut points. Written by a program of this repo (gen). -/
set_option linter.unusedVariables false
set_option linter.unusedSimpArgs false
set_option maxRecDepth 100000
namespace Go.Proofs.YtkokplahkiaoaaaDoor
open Go Go.Am Go.Proofs
noncomputable section
def ext27c19 : Ext := [(19, S19)]
theorem call27c19_19 : Callable Tryd.prog 19 := ⟨Tryd.f19, Tryd.func19, by kernel_rfl, by kernel_rfl⟩
theorem ext27c19Ok : ExtOk Tryd.prog ext27c19 := ⟨⟨call27c19_19, con19⟩, trivial⟩

noncomputable def b27c19 : Code := bodyOf Tryd.f27
theorem hb27c19 : Tryd.f27.body = some b27c19 := by kernel_rfl
def sig27c19 : List AT := [AT.v (Ty.sl (Ty.sl Ty.str)), AT.fn 19 []]
def tys27c19 : List Ty := [Ty.int IntKind.i64]
def kds27c19 : List RK := []
def oks27c19 : List AT := owns sig27c19
def E27c19_2 (v8 : Int) (x0 : List (List ByteArray)) : Env := [(0, PV.a (Atom.sl (Ty.sl Ty.str) x0)), (1, PV.fn 19 []), (7, PV.a (Atom.val (Value.int IntKind.i64 (↑(List.length x0) : Int)))), (8, PV.a (Atom.val (Value.int IntKind.i64 v8)))]
def L27c19_2 (v8 : Int) (x0 : List (List ByteArray)) : Heap := []
mutual
def R27c19 : Nat → List (List ByteArray) → List Dyn → Prop
  | 0, _, _ => False
  | n + 1, x0, ds => (R27c19_2 n (0) (x0) ds)
def R27c19_2 : Nat → Int → List (List ByteArray) → List Dyn → Prop
  | 0, _, _, _ => False
  | n + 1, v8, x0, ds => (if (Decidable.decide (v8 < (↑(List.length x0) : Int))) = true then ((0 ≤ v8) ∧ (v8 < (↑(List.length x0) : Int)) ∧ (if (g19_0 (List.getD x0 (Int.toNat v8) [])) = true then (ds = [Dyn.mk (Ty.int IntKind.i64) v8]) else ((InR IntKind.i64 (v8 + 1)) ∧ (R27c19_2 n (v8 + 1) (x0) ds)))) else (ds = [Dyn.mk (Ty.int IntKind.i64) (-1)]))
end
theorem snd27c19 : ∀ n, (∀ (x0 : List (List ByteArray)) ds, R27c19 n x0 ds → ∀ K q, AtV Tryd.prog 27 (PostR kds27c19 oks27c19 ds [] [] q K) 19 K q [] [.code b27c19] (entE 0 0 sig27c19 (x0, (), ())) (entL sig27c19 (x0, (), ()))) ∧ (∀ (v8 : Int) (x0 : List (List ByteArray)) ds, R27c19_2 n v8 x0 ds → ∀ K q, AtV Tryd.prog 27 (PostR kds27c19 oks27c19 ds [] [] q K) 19 K q [] (cutAt b27c19 2) (E27c19_2 v8 x0) (L27c19_2 v8 x0)) := by
  intro n
  induction n with
  | zero => exact ⟨fun _ _ h => by simp only [R27c19] at h, fun _ _ _ h => by simp only [R27c19_2] at h⟩
  | succ n ih =>
  obtain ⟨ih, ih2⟩ := ih
  refine ⟨?_, ?_⟩
  · intro x0 ds h K q
    rw [R27c19] at h
    exact AtV.go tabOk ext27c19Ok mixed false [] [] [0, 1, 7, 8] [] [] trivial (ih2 _ _ _ h K q) (by kernel_rfl)

  · intro v8 x0 ds h K q
    rw [R27c19_2] at h
    by_cases b0 : (Decidable.decide (v8 < (↑(List.length x0) : Int))) = true
    · rw [if_pos b0] at h
      obtain ⟨s0, s1, h⟩ := h
      by_cases b1 : (g19_0 (List.getD x0 (Int.toNat v8) [])) = true
      · rw [if_pos b1] at h
        subst h
        exact AtV.ret Tryd.func27 tabOk ext27c19Ok mixed false [] tys27c19 [true, true] (a1 b0 (a1 s0 (a1 s1 (a1 trivial (a1 b1 trivial))))) (by kernel_rfl)
      · rw [if_neg b1] at h
        replace b1 := Bool.eq_false_iff.2 b1
        obtain ⟨s2, h⟩ := h
        exact AtV.go tabOk ext27c19Ok mixed false [] [] [0, 1, 7, 8] [] [true, false] (a1 b0 (a1 s0 (a1 s1 (a1 trivial (a1 b1 (a1 s2 trivial)))))) (ih2 _ _ _ h K q) (by kernel_rfl)
    · rw [if_neg b0] at h
      replace b0 := Bool.eq_false_iff.2 b0
      subst h
      exact AtV.ret Tryd.func27 tabOk ext27c19Ok mixed false [] tys27c19 [false] (a1 b0 trivial) (by kernel_rfl)



def g27c19_0 (x0 : List (List (ByteArray))) : Int := idx (x0.findIdx? g19_0)
def P27c19 (x0 : List (List (ByteArray))) : Prop := True

theorem top27c19 (x0 : List (List (ByteArray))) (hm : x0.length ≤ maxLen) : R27c19 (x0.length + 1 + 1) x0 [⟨.int .i64, g27c19_0 x0⟩] := by
  rw [R27c19]
  have key := loop_find x0 [] g19_0 [(⟨.int .i64, -1⟩ : Dyn)] (fun k => [⟨.int .i64, k⟩]) (fun n i ds => R27c19_2 n i x0 ds) (fun n => ?_) (fun n i hi hok ds hr => ?_) (fun n i hi hok => ?_)
  · unfold g27c19_0
    cases h : x0.findIdx? g19_0 <;> rw [h] at key <;> exact key
  · rw [R27c19_2, if_neg (by simp)]
  · rw [R27c19_2, if_pos (by simp; omega)]
    simp only [Int.toNat_natCast]
    refine ⟨by omega, by omega, ?_⟩
    rw [if_neg (by rw [hok]; simp)]
    exact ⟨inR_up hm hi, hr⟩
  · rw [R27c19_2, if_pos (by simp; omega)]
    simp only [Int.toNat_natCast]
    refine ⟨by omega, by omega, ?_⟩
    rw [if_pos hok] <;> trivial

def S27c19 : Am.Spec := { sig := sig27c19, pre := fun ⟨x0, _⟩ => P27c19 x0, res := fun ⟨x0, _⟩ => [⟨Ty.int .i64, g27c19_0 x0⟩] }
theorem con27c19 : Contract Tryd.prog 27 S27c19 := contract_of Tryd.func27 hb27c19 (Nat.le_of_ble_eq_true (by kernel_rfl)) (fun ⟨x0, _⟩ h hwf K q =>
  (snd27c19 _).1 x0 _ (top27c19 x0 hwf.1.1) K q)

theorem any27c19 (x0 : List (List (ByteArray))) : decide (g27c19_0 x0 ≥ 0) = x0.any g19_0 := by
  have := findIdx_any g19_0 x0
  unfold g27c19_0
  cases h : x0.any g19_0 with
  | true => rw [h] at this; simpa using this
  | false => rw [h] at this; simpa using this

end
end Go.Proofs.YtkokplahkiaoaaaDoor

/- Function 18 (slices.ContainsFunc[[][]string,[]string]): its runs between cut points. Written by a program of this repo (gen). -/
set_option linter.unusedVariables false
set_option linter.unusedSimpArgs false
set_option maxRecDepth 100000
namespace Go.Proofs.YtkokplahkiaoaaaDoor
open Go Go.Am Go.Proofs
noncomputable section
def ext18c19 : Ext := [(27, S27c19), (19, S19)]
theorem call18c19_27 : Callable Tryd.prog 27 := ⟨Tryd.f27, Tryd.func27, by kernel_rfl, by kernel_rfl⟩
theorem call18c19_19 : Callable Tryd.prog 19 := ⟨Tryd.f19, Tryd.func19, by kernel_rfl, by kernel_rfl⟩
theorem ext18c19Ok : ExtOk Tryd.prog ext18c19 := ⟨⟨call18c19_27, con27c19⟩, ⟨call18c19_19, con19⟩, trivial⟩

noncomputable def b18c19 : Code := bodyOf Tryd.f18
theorem hb18c19 : Tryd.f18.body = some b18c19 := by kernel_rfl
def sig18c19 : List AT := [AT.v (Ty.sl (Ty.sl Ty.str)), AT.fn 19 []]
def tys18c19 : List Ty := [Ty.bool]
def kds18c19 : List RK := []
def oks18c19 : List AT := owns sig18c19
def P18c19 (x0 : List (List ByteArray)) : Prop := True
def g18c19_0 (x0 : List (List ByteArray)) : Bool := Decidable.decide (g27c19_0 x0 ≥ 0)
theorem at18c19 (x0 : List (List ByteArray)) (h : P18c19 x0) (K : Ctx) (q : Nat → Value) : AtV Tryd.prog 18 (PostR kds18c19 oks18c19 [⟨Ty.bool, g18c19_0 x0⟩] [] [] q K) 9 K q [] [.code b18c19] (entE 0 0 sig18c19 (x0, (), ())) (entL sig18c19 (x0, (), ())) := by
  unfold P18c19 at h
  unfold g18c19_0
  exact AtV.ret Tryd.func18 tabOk ext18c19Ok mixed false [] tys18c19 [] (a1 trivial trivial) (by kernel_rfl)

def S18c19 : Am.Spec := { sig := sig18c19, pre := fun ⟨x0, _⟩ => P18c19 x0, res := fun ⟨x0, _⟩ => [⟨Ty.bool, g18c19_0 x0⟩], kds := kds18c19 }
theorem con18c19 : Contract Tryd.prog 18 S18c19 := contract_of Tryd.func18 hb18c19 (Nat.le_of_ble_eq_true (by kernel_rfl)) (fun ⟨x0, _⟩ h _ K q => at18c19 x0 h K q)


end
end Go.Proofs.YtkokplahkiaoaaaDoor

/- Function 7 (impl.TableLines): its runs between cut points. Written by a program of this repo (gen). -/
set_option linter.unusedVariables false
set_option linter.unusedSimpArgs false
set_option maxRecDepth 100000
namespace Go.Proofs.YtkokplahkiaoaaaDoor
open Go Go.Am Go.Proofs
noncomputable section
def ext7 : Ext := [(21, S21), (23, S23), (22, S22), (24, S24), (18, S18c19)]
theorem call7_21 : Callable Tryd.prog 21 := ⟨Tryd.f21, Tryd.func21, by kernel_rfl, by kernel_rfl⟩
theorem call7_23 : Callable Tryd.prog 23 := ⟨Tryd.f23, Tryd.func23, by kernel_rfl, by kernel_rfl⟩
theorem call7_22 : Callable Tryd.prog 22 := ⟨Tryd.f22, Tryd.func22, by kernel_rfl, by kernel_rfl⟩
theorem call7_24 : Callable Tryd.prog 24 := ⟨Tryd.f24, Tryd.func24, by kernel_rfl, by kernel_rfl⟩
theorem call7_18 : Callable Tryd.prog 18 := ⟨Tryd.f18, Tryd.func18, by kernel_rfl, by kernel_rfl⟩
theorem ext7Ok : ExtOk Tryd.prog ext7 := ⟨⟨call7_21, con21⟩, ⟨call7_23, con23⟩, ⟨call7_22, con22⟩, ⟨call7_24, con24⟩, ⟨call7_18, con18c19⟩, trivial⟩

noncomputable def b7 : Code := bodyOf Tryd.f7
theorem hb7 : Tryd.f7.body = some b7 := by kernel_rfl
def sig7 : List AT := [AT.v (Ty.sl (Ty.sl Ty.str))]
def tys7 : List Ty := [Ty.sl Ty.str, Ty.int IntKind.i64]
def kds7 : List RK := []
def oks7 : List AT := owns sig7
def E7_5 (v20 : Int) (h0 : List Int) (x0 : List (List ByteArray)) : Env := [(0, PV.a (Atom.sl (Ty.sl Ty.str) x0)), (4, PV.a (Atom.osl 0 Option.none)), (18, PV.a (Atom.sl (Ty.sl Ty.str) x0)), (19, PV.a (Atom.val (Value.int IntKind.i64 (↑(List.length x0) : Int)))), (20, PV.a (Atom.val (Value.int IntKind.i64 v20)))]
def L7_5 (v20 : Int) (h0 : List Int) (x0 : List (List ByteArray)) : Heap := [Option.some (Arr.mk (Ty.int IntKind.i64) h0 Bool.false Option.none Option.none)]
def E7_8 (v26 : Int) (h0 : List Int) (x0 : List (List ByteArray)) (v20 : Int) : Env := [(0, PV.a (Atom.sl (Ty.sl Ty.str) x0)), (4, PV.a (Atom.osl 0 Option.none)), (18, PV.a (Atom.sl (Ty.sl Ty.str) x0)), (19, PV.a (Atom.val (Value.int IntKind.i64 (↑(List.length x0) : Int)))), (20, PV.a (Atom.val (Value.int IntKind.i64 v20))), (24, PV.a (Atom.sl Ty.str (List.getD x0 (Int.toNat v20) []))), (25, PV.a (Atom.val (Value.int IntKind.i64 (↑(List.length (List.getD x0 (Int.toNat v20) [])) : Int)))), (26, PV.a (Atom.val (Value.int IntKind.i64 v26)))]
def L7_8 (v26 : Int) (h0 : List Int) (x0 : List (List ByteArray)) (v20 : Int) : Heap := [Option.some (Arr.mk (Ty.int IntKind.i64) h0 Bool.false Option.none Option.none)]
def E7_15 (v45 : Int) (h1 : List ByteArray) (x0 : List (List ByteArray)) (h0 : List Int) : Env := [(4, PV.a (Atom.osl 0 Option.none)), (9, PV.a (Atom.osl 1 Option.none)), (43, PV.a (Atom.sl (Ty.sl Ty.str) x0)), (44, PV.a (Atom.val (Value.int IntKind.i64 (↑(List.length x0) : Int)))), (45, PV.a (Atom.val (Value.int IntKind.i64 v45)))]
def L7_15 (v45 : Int) (h1 : List ByteArray) (x0 : List (List ByteArray)) (h0 : List Int) : Heap := [Option.some (Arr.mk (Ty.int IntKind.i64) h0 Bool.false Option.none Option.none), Option.some (Arr.mk Ty.str h1 Bool.false Option.none Option.none)]
def E7_19 (v51 : Int) (h2 : List ByteArray) (x0 : List (List ByteArray)) (v45 : Int) (h0 : List Int) (h1 : List ByteArray) : Env := [(4, PV.a (Atom.osl 0 Option.none)), (9, PV.a (Atom.osl 1 Option.none)), (12, PV.a (Atom.osl 2 Option.none)), (43, PV.a (Atom.sl (Ty.sl Ty.str) x0)), (44, PV.a (Atom.val (Value.int IntKind.i64 (↑(List.length x0) : Int)))), (45, PV.a (Atom.val (Value.int IntKind.i64 v45))), (49, PV.a (Atom.sl Ty.str (List.getD x0 (Int.toNat v45) []))), (50, PV.a (Atom.val (Value.int IntKind.i64 (↑(List.length (List.getD x0 (Int.toNat v45) [])) : Int)))), (51, PV.a (Atom.val (Value.int IntKind.i64 v51)))]
def L7_19 (v51 : Int) (h2 : List ByteArray) (x0 : List (List ByteArray)) (v45 : Int) (h0 : List Int) (h1 : List ByteArray) : Heap := [Option.some (Arr.mk (Ty.int IntKind.i64) h0 Bool.false Option.none Option.none), Option.some (Arr.mk Ty.str h1 Bool.false Option.none Option.none), Option.some (Arr.mk Ty.str h2 Bool.false Option.none Option.none)]
mutual
def R7 : Nat → List (List ByteArray) → List Dyn → Prop
  | 0, _, _ => False
  | n + 1, x0, ds => (if (g18c19_0 x0) = true then (ds = [Dyn.mk (Ty.sl Ty.str) [], Dyn.mk (Ty.int IntKind.i64) 2]) else (R7_5 n (0) ([0, 0, 0, 0, 0, 0, 0, 0, 0, 0, 0, 0]) (x0) ds))
def R7_5 : Nat → Int → List Int → List (List ByteArray) → List Dyn → Prop
  | 0, _, _, _, _ => False
  | n + 1, v20, h0, x0, ds => (if (Decidable.decide (v20 < (↑(List.length x0) : Int))) = true then ((0 ≤ v20) ∧ (v20 < (↑(List.length x0) : Int)) ∧ (R7_8 n (0) (h0) (x0) (v20) ds)) else (R7_15 n (0) ([]) (x0) (h0) ds))
def R7_8 : Nat → Int → List Int → List (List ByteArray) → Int → List Dyn → Prop
  | 0, _, _, _, _, _ => False
  | n + 1, v26, h0, x0, v20, ds => (if (Decidable.decide (v26 < (↑(List.length (List.getD x0 (Int.toNat v20) [])) : Int))) = true then ((0 ≤ v26) ∧ (v26 < (↑(List.length (List.getD x0 (Int.toNat v20) [])) : Int)) ∧ ((0 ≤ v26) ∧ (v26 < (↑(List.length h0) : Int)) ∧ ((0 ≤ v26) ∧ (v26 < (↑(List.length h0) : Int)) ∧ ((InR IntKind.i64 (v26 + 1)) ∧ (R7_8 n (v26 + 1) (List.set h0 (Int.toNat v26) (if List.getD h0 (Int.toNat v26) 0 < (↑(ByteArray.size (List.getD (List.getD x0 (Int.toNat v20) []) (Int.toNat v26) ByteArray.empty)) : Int) then (↑(ByteArray.size (List.getD (List.getD x0 (Int.toNat v20) []) (Int.toNat v26) ByteArray.empty)) : Int) else List.getD h0 (Int.toNat v26) 0)) (x0) (v20) ds))))) else ((InR IntKind.i64 (v20 + 1)) ∧ (R7_5 n (v20 + 1) (h0) (x0) ds)))
def R7_15 : Nat → Int → List ByteArray → List (List ByteArray) → List Int → List Dyn → Prop
  | 0, _, _, _, _, _ => False
  | n + 1, v45, h1, x0, h0, ds => (if (Decidable.decide (v45 < (↑(List.length x0) : Int))) = true then ((0 ≤ v45) ∧ (v45 < (↑(List.length x0) : Int)) ∧ (R7_19 n (0) ([]) (x0) (v45) (h0) (h1) ds)) else (ds = [Dyn.mk (Ty.sl Ty.str) (g24_0 h1), Dyn.mk (Ty.int IntKind.i64) (g24_1 h1)]))
def R7_19 : Nat → Int → List ByteArray → List (List ByteArray) → Int → List Int → List ByteArray → List Dyn → Prop
  | 0, _, _, _, _, _, _, _ => False
  | n + 1, v51, h2, x0, v45, h0, h1, ds => (if (Decidable.decide (v51 < (↑(List.length (List.getD x0 (Int.toNat v45) [])) : Int))) = true then ((0 ≤ v51) ∧ (v51 < (↑(List.length (List.getD x0 (Int.toNat v45) [])) : Int)) ∧ ((0 ≤ v51) ∧ (v51 < (↑(List.length h0) : Int)) ∧ ((InR IntKind.i64 (List.getD h0 (Int.toNat v51) 0 - (↑(ByteArray.size (List.getD (List.getD x0 (Int.toNat v45) []) (Int.toNat v51) ByteArray.empty)) : Int))) ∧ ((P21 (ByteArray.mk #[32]) (List.getD h0 (Int.toNat v51) 0 - (↑(ByteArray.size (List.getD (List.getD x0 (Int.toNat v45) []) (Int.toNat v51) ByteArray.empty)) : Int))) ∧ ((ByteArray.size (List.getD (List.getD x0 (Int.toNat v45) []) (Int.toNat v51) ByteArray.empty) + ByteArray.size (g21_0 (ByteArray.mk #[32]) (List.getD h0 (Int.toNat v51) 0 - (↑(ByteArray.size (List.getD (List.getD x0 (Int.toNat v45) []) (Int.toNat v51) ByteArray.empty)) : Int))) ≤ 9223372036854775807) ∧ (((List.length h2 + 1) * 16 ≤ 140737488355328) ∧ ((InR IntKind.i64 (v51 + 1)) ∧ (R7_19 n (v51 + 1) (h2 ++ [List.getD (List.getD x0 (Int.toNat v45) []) (Int.toNat v51) ByteArray.empty ++ g21_0 (ByteArray.mk #[32]) (List.getD h0 (Int.toNat v51) 0 - (↑(ByteArray.size (List.getD (List.getD x0 (Int.toNat v45) []) (Int.toNat v51) ByteArray.empty)) : Int))]) (x0) (v45) (h0) (h1) ds)))))))) else ((P23 h2 (ByteArray.mk #[32, 32])) ∧ ((P22 (g23_0 h2 (ByteArray.mk #[32, 32])) (ByteArray.mk #[32])) ∧ (((List.length h1 + 1) * 16 ≤ 140737488355328) ∧ ((InR IntKind.i64 (v45 + 1)) ∧ (R7_15 n (v45 + 1) (h1 ++ [g22_0 (g23_0 h2 (ByteArray.mk #[32, 32])) (ByteArray.mk #[32])]) (x0) (h0) ds))))))
end
theorem snd7 : ∀ n, (∀ (x0 : List (List ByteArray)) ds, R7 n x0 ds → ∀ K q, AtV Tryd.prog 7 (PostR kds7 oks7 ds [] [] q K) 81 K q [] [.code b7] (entE 0 0 sig7 (x0, ())) (entL sig7 (x0, ()))) ∧ (∀ (v20 : Int) (h0 : List Int) (x0 : List (List ByteArray)) ds, R7_5 n v20 h0 x0 ds → ∀ K q, AtV Tryd.prog 7 (PostR kds7 oks7 ds [] [] q K) 81 K q [] (cutAt b7 5) (E7_5 v20 h0 x0) (L7_5 v20 h0 x0)) ∧ (∀ (v26 : Int) (h0 : List Int) (x0 : List (List ByteArray)) (v20 : Int) ds, R7_8 n v26 h0 x0 v20 ds → ∀ K q, AtV Tryd.prog 7 (PostR kds7 oks7 ds [] [] q K) 81 K q [] (cutAt b7 8) (E7_8 v26 h0 x0 v20) (L7_8 v26 h0 x0 v20)) ∧ (∀ (v45 : Int) (h1 : List ByteArray) (x0 : List (List ByteArray)) (h0 : List Int) ds, R7_15 n v45 h1 x0 h0 ds → ∀ K q, AtV Tryd.prog 7 (PostR kds7 oks7 ds [] [] q K) 81 K q [] (cutAt b7 15) (E7_15 v45 h1 x0 h0) (L7_15 v45 h1 x0 h0)) ∧ (∀ (v51 : Int) (h2 : List ByteArray) (x0 : List (List ByteArray)) (v45 : Int) (h0 : List Int) (h1 : List ByteArray) ds, R7_19 n v51 h2 x0 v45 h0 h1 ds → ∀ K q, AtV Tryd.prog 7 (PostR kds7 oks7 ds [] [] q K) 81 K q [] (cutAt b7 19) (E7_19 v51 h2 x0 v45 h0 h1) (L7_19 v51 h2 x0 v45 h0 h1)) := by
  intro n
  induction n with
  | zero => exact ⟨fun _ _ h => by simp only [R7] at h, fun _ _ _ _ h => by simp only [R7_5] at h, fun _ _ _ _ _ h => by simp only [R7_8] at h, fun _ _ _ _ _ h => by simp only [R7_15] at h, fun _ _ _ _ _ _ _ h => by simp only [R7_19] at h⟩
  | succ n ih =>
  obtain ⟨ih, ih5, ih8, ih15, ih19⟩ := ih
  refine ⟨?_, ?_, ?_, ?_, ?_⟩
  · intro x0 ds h K q
    rw [R7] at h
    by_cases b0 : (g18c19_0 x0) = true
    · rw [if_pos b0] at h
      subst h
      exact AtV.ret Tryd.func7 tabOk ext7Ok mixed false [] tys7 [true] (a1 trivial (a1 b0 trivial)) (by kernel_rfl)
    · rw [if_neg b0] at h
      replace b0 := Bool.eq_false_iff.2 b0
      exact AtV.go tabOk ext7Ok mixed false [] [] [0, 4, 18, 19, 20] [0] [false] (a1 trivial (a1 b0 (a1 ((by decide) : (0 : Int) ≤ (12 : Int)) (a1 ((by decide) : (12 : Int) ≤ (12 : Int)) (a1 ((by decide) : (96 : Int) ≤ (281474976710656 : Int)) trivial))))) (ih5 _ _ _ _ h K q) (by kernel_rfl)

  · intro v20 h0 x0 ds h K q
    rw [R7_5] at h
    by_cases b0 : (Decidable.decide (v20 < (↑(List.length x0) : Int))) = true
    · rw [if_pos b0] at h
      obtain ⟨s0, s1, h⟩ := h
      exact AtV.go tabOk ext7Ok mixed false [] [] [0, 4, 18, 19, 20, 24, 25, 26] [0] [true] (a1 b0 (a1 s0 (a1 s1 trivial))) (ih8 _ _ _ _ _ h K q) (by kernel_rfl)
    · rw [if_neg b0] at h
      replace b0 := Bool.eq_false_iff.2 b0
      exact AtV.go tabOk ext7Ok mixed false [] [(9, Ty.str)] [4, 9, 43, 44, 45] [0, 1] [false] (a1 b0 trivial) (ih15 _ _ _ _ _ h K q) (by kernel_rfl)

  · intro v26 h0 x0 v20 ds h K q
    rw [R7_8] at h
    by_cases b0 : (Decidable.decide (v26 < (↑(List.length (List.getD x0 (Int.toNat v20) [])) : Int))) = true
    · rw [if_pos b0] at h
      obtain ⟨s0, s1, h⟩ := h
      obtain ⟨s2, s3, h⟩ := h
      obtain ⟨s4, s5, h⟩ := h
      obtain ⟨s6, h⟩ := h
      exact AtV.go tabOk ext7Ok mixed false [] [] [0, 4, 18, 19, 20, 24, 25, 26] [0] [true] (a1 b0 (a1 s0 (a1 s1 (a1 s2 (a1 s3 (a1 s4 (a1 s5 (a1 s6 trivial)))))))) (ih8 _ _ _ _ _ h K q) (by kernel_rfl)
    · rw [if_neg b0] at h
      replace b0 := Bool.eq_false_iff.2 b0
      obtain ⟨s0, h⟩ := h
      exact AtV.go tabOk ext7Ok mixed false [] [] [0, 4, 18, 19, 20] [0] [false] (a1 b0 (a1 s0 trivial)) (ih5 _ _ _ _ h K q) (by kernel_rfl)

  · intro v45 h1 x0 h0 ds h K q
    rw [R7_15] at h
    by_cases b0 : (Decidable.decide (v45 < (↑(List.length x0) : Int))) = true
    · rw [if_pos b0] at h
      obtain ⟨s0, s1, h⟩ := h
      exact AtV.go tabOk ext7Ok mixed false [] [(12, Ty.str)] [4, 9, 12, 43, 44, 45, 49, 50, 51] [0, 1, 2] [true] (a1 b0 (a1 s0 (a1 s1 trivial))) (ih19 _ _ _ _ _ _ _ h K q) (by kernel_rfl)
    · rw [if_neg b0] at h
      replace b0 := Bool.eq_false_iff.2 b0
      subst h
      exact AtV.ret Tryd.func7 tabOk ext7Ok mixed false [] tys7 [false] (a1 b0 (a1 trivial trivial)) (by kernel_rfl)

  · intro v51 h2 x0 v45 h0 h1 ds h K q
    rw [R7_19] at h
    by_cases b0 : (Decidable.decide (v51 < (↑(List.length (List.getD x0 (Int.toNat v45) [])) : Int))) = true
    · rw [if_pos b0] at h
      obtain ⟨s0, s1, h⟩ := h
      obtain ⟨s2, s3, h⟩ := h
      obtain ⟨s4, h⟩ := h
      obtain ⟨s5, h⟩ := h
      obtain ⟨s6, h⟩ := h
      obtain ⟨s7, h⟩ := h
      obtain ⟨s8, h⟩ := h
      exact AtV.go tabOk ext7Ok mixed false [] [(12, Ty.str)] [4, 9, 12, 43, 44, 45, 49, 50, 51] [0, 1, 2] [true] (a1 b0 (a1 s0 (a1 s1 (a1 s2 (a1 s3 (a1 s4 (a1 s5 (a1 s6 (a1 s7 (a1 s8 trivial)))))))))) (ih19 _ _ _ _ _ _ _ h K q) (by kernel_rfl)
    · rw [if_neg b0] at h
      replace b0 := Bool.eq_false_iff.2 b0
      obtain ⟨s0, h⟩ := h
      obtain ⟨s1, h⟩ := h
      obtain ⟨s2, h⟩ := h
      obtain ⟨s3, h⟩ := h
      exact AtV.go tabOk ext7Ok mixed false [] [(9, Ty.str)] [4, 9, 43, 44, 45] [0, 1] [false] (a1 b0 (a1 s0 (a1 s1 (a1 s2 (a1 s3 trivial))))) (ih15 _ _ _ _ _ h K q) (by kernel_rfl)



def up7 (h : List Int) (k : Nat) (c : ByteArray) : List Int := h.set k (if h.getD k 0 < ((c.size : Nat) : Int) then ((c.size : Nat) : Int) else h.getD k 0)
def row7 : Nat → List ByteArray → List Int → List Int
  | _, [], h => h
  | k, c :: r, h => row7 (k + 1) r (up7 h k c)
def wide7 (x0 : List (List ByteArray)) : List Int := x0.foldl (fun h r => row7 0 r h) [0, 0, 0, 0, 0, 0, 0, 0, 0, 0, 0, 0]
def wd7 (h : List Int) (k : Nat) (c : ByteArray) : ByteArray := c ++ g21_0 (ByteArray.mk #[32]) (h.getD k 0 - ((c.size : Nat) : Int))
def words7 (h : List Int) : Nat → List ByteArray → List ByteArray
  | _, [] => []
  | k, c :: r => wd7 h k c :: words7 h (k + 1) r
def fin7 (w : List ByteArray) : ByteArray := g22_0 (g23_0 w (ByteArray.mk #[32, 32])) (ByteArray.mk #[32])
def line7 (h : List Int) (r : List ByteArray) : ByteArray := fin7 (words7 h 0 r)

def B7 (x0 : List (List ByteArray)) : Prop := x0.length ≤ 1100000 ∧ ∀ r ∈ x0, r.length ≤ 12 ∧ ∀ c ∈ r, c.size ≤ 4000000
def P7 (x0 : List (List ByteArray)) : Prop := g18c19_0 x0 = false → B7 x0
def g7_0 (x0 : List (List ByteArray)) : List ByteArray := if g18c19_0 x0 = true then [] else g24_0 (x0.map (line7 (wide7 x0)))
def g7_1 (x0 : List (List ByteArray)) : Int := if g18c19_0 x0 = true then 2 else g24_1 (x0.map (line7 (wide7 x0)))

def Wid7 (h : List Int) : Prop := h.length = 12 ∧ ∀ c ∈ h, 0 ≤ c ∧ c ≤ 4000000
theorem wget7 {h : List Int} (hw : Wid7 h) (k : Nat) : 0 ≤ h.getD k 0 ∧ h.getD k 0 ≤ 4000000 := by
  by_cases hk : k < h.length
  · exact hw.2 _ (mem_getD h k 0 hk)
  · rw [List.getD_eq_getElem?_getD, List.getElem?_eq_none (by omega)]
    exact ⟨Int.le_refl _, by decide⟩
theorem wup7 {h : List Int} (hw : Wid7 h) (k : Nat) {c : ByteArray} (hc : c.size ≤ 4000000) : Wid7 (up7 h k c) := by
  have hg := wget7 hw k
  refine ⟨by unfold up7; rw [List.length_set]; exact hw.1, fun y hy => ?_⟩
  unfold up7 at hy
  rcases List.mem_or_eq_of_mem_set hy with hy | rfl
  · exact hw.2 y hy
  · split <;> omega
theorem wrow7 : ∀ (r : List ByteArray) (k : Nat) (h : List Int), Wid7 h → (∀ c ∈ r, c.size ≤ 4000000) → Wid7 (row7 k r h)
  | [], _, _, hw, _ => hw
  | c :: r, k, h, hw, hc => wrow7 r (k + 1) _ (wup7 hw k (hc c (List.mem_cons_self ..))) (fun d hd => hc d (List.mem_cons_of_mem _ hd))

theorem upget7 (h : List Int) (k : Nat) (c : ByteArray) (j : Nat) : h.getD j 0 ≤ (up7 h k c).getD j 0 ∧ (k < h.length → ((c.size : Nat) : Int) ≤ (up7 h k c).getD k 0) := by
  unfold up7
  constructor
  · rw [List.getD_eq_getElem?_getD, List.getD_eq_getElem?_getD, List.getElem?_set]
    by_cases hjk : k = j
    · subst hjk
      by_cases hk : k < h.length
      · rw [if_pos rfl, if_pos hk, List.getD_eq_getElem?_getD]
        simp only [Option.getD_some]
        split <;> omega
      · rw [if_pos rfl, if_neg hk, List.getElem?_eq_none (by omega)]
        exact Int.le_refl _
    · rw [if_neg hjk]; exact Int.le_refl _
  · intro hk
    rw [List.getD_eq_getElem?_getD, List.getElem?_set, if_pos rfl, if_pos hk]
    simp only [Option.getD_some]
    split <;> omega

theorem rowmono7 : ∀ (r : List ByteArray) (k : Nat) (h : List Int) (j : Nat), h.getD j 0 ≤ (row7 k r h).getD j 0
  | [], _, _, _ => Int.le_refl _
  | c :: r, k, h, j => Int.le_trans (upget7 h k c j).1 (rowmono7 r (k + 1) _ j)

theorem rowcov7 : ∀ (r : List ByteArray) (k : Nat) (h : List Int), k + r.length ≤ h.length → ∀ j, j < r.length → (((r.getD j ByteArray.empty).size : Nat) : Int) ≤ (row7 k r h).getD (k + j) 0
  | [], _, _, _, j, hj => by cases hj
  | c :: r, k, h, hl, j, hj => by
    have hk : k < h.length := by simp at hl; omega
    cases j with
    | zero => exact Int.le_trans ((upget7 h k c k).2 hk) (rowmono7 r (k + 1) _ k)
    | succ j =>
      have := rowcov7 r (k + 1) (up7 h k c) (by unfold up7; rw [List.length_set]; simp at hl; omega) j (by simpa using hj)
      rw [show k + (j + 1) = k + 1 + j by omega]
      simpa [row7] using this

theorem foldmono7 : ∀ (l : List (List ByteArray)) (h : List Int) (j : Nat), h.getD j 0 ≤ (l.foldl (fun h r => row7 0 r h) h).getD j 0
  | [], _, _ => Int.le_refl _
  | r :: l, h, j => Int.le_trans (rowmono7 r 0 h j) (foldmono7 l _ j)

theorem foldcov7 : ∀ (l : List (List ByteArray)) (h : List Int), Wid7 h → (∀ r ∈ l, r.length ≤ 12 ∧ ∀ c ∈ r, c.size ≤ 4000000) → Wid7 (l.foldl (fun h r => row7 0 r h) h) ∧ ∀ r ∈ l, ∀ j, j < r.length → (((r.getD j ByteArray.empty).size : Nat) : Int) ≤ (l.foldl (fun h r => row7 0 r h) h).getD j 0
  | [], h, hw, _ => ⟨hw, fun r hr => by cases hr⟩
  | q :: l, h, hw, hr => by
    obtain ⟨q1, q2⟩ := hr q (List.mem_cons_self ..)
    obtain ⟨i1, i2⟩ := foldcov7 l (row7 0 q h) (wrow7 q 0 h hw q2) (fun r h => hr r (List.mem_cons_of_mem _ h))
    refine ⟨i1, fun r hm j hj => ?_⟩
    rcases List.mem_cons.1 hm with rfl | hm
    · have := rowcov7 r 0 h (by rw [hw.1]; omega) j hj
      rw [Nat.zero_add] at this
      exact Int.le_trans this (foldmono7 l _ j)
    · exact i2 r hm j hj

theorem wdsize7 {h : List Int} (hw : Wid7 h) {k : Nat} {c : ByteArray} (hc : ((c.size : Nat) : Int) ≤ h.getD k 0) : (wd7 h k c).size ≤ 4000000 := by
  have hg := wget7 hw k
  unfold wd7 g21_0
  rw [ByteArray.size_append]
  have : (ByteArray.mk (Lib.repeatL (ByteArray.mk #[32]).data.toList (h.getD k 0 - ((c.size : Nat) : Int)).toNat).toArray).size = (h.getD k 0 - ((c.size : Nat) : Int)).toNat * 1 := by
    show (List.toArray _).size = _
    rw [List.size_toArray, Lib.repeatL_length]
    rfl
  rw [this]
  omega

theorem joinlen7 : ∀ (w : List (List UInt8)), (∀ x ∈ w, x.length ≤ 4000000) → (Lib.joinTail [32, 32] w).length ≤ w.length * 4000002
  | [], _ => by simp [Lib.joinTail]
  | x :: r, h => by
    have := joinlen7 r (fun y hy => h y (List.mem_cons_of_mem _ hy))
    have hx := h x (List.mem_cons_self ..)
    simp only [Lib.joinTail, List.map_cons, List.flatten_cons, List.length_append, List.length_cons, List.length_nil] at this ⊢
    omega

theorem finpre7 {w : List ByteArray} (hl : w.length ≤ 12) (hw : ∀ x ∈ w, x.size ≤ 4000000) : P23 w (ByteArray.mk #[32, 32]) ∧ P22 (g23_0 w (ByteArray.mk #[32, 32])) (ByteArray.mk #[32]) := by
  refine ⟨⟨by omega, ?_⟩, ⟨32, rfl, by decide⟩⟩
  cases w with
  | nil => exact Nat.zero_le _
  | cons x r =>
    have e : (ByteArray.mk #[32, 32]).data.toList = [32, 32] := rfl
    rw [e, List.map_cons, Lib.join_cons, List.length_append]
    have h1 : x.data.toList.length ≤ 4000000 := hw x (List.mem_cons_self ..)
    have h2 := joinlen7 (r.map fun x => x.data.toList) (fun y hy => by
      obtain ⟨z, hz, rfl⟩ := List.mem_map.1 hy
      exact hw z (List.mem_cons_of_mem _ hz))
    rw [List.length_map] at h2
    simp only [List.length_cons] at hl
    omega

section
variable {x0 : List (List ByteArray)} {ds : List Dyn}

theorem l197 {v45 : Nat} {h0 : List Int} {h1 : List ByteArray} (hw : Wid7 h0) (hr : (x0.getD v45 []).length ≤ 12) (hc : ∀ c ∈ x0.getD v45 [], c.size ≤ 4000000) (hcov : ∀ j, j < (x0.getD v45 []).length → ((((x0.getD v45 []).getD j ByteArray.empty).size : Nat) : Int) ≤ h0.getD j 0) (hv : v45 < 1100000) (hl : h1.length ≤ 1100000) :
    ∀ (k v51 : Nat) (h2 : List ByteArray), v51 + k = (x0.getD v45 []).length → h2.length = v51 → (∀ x ∈ h2, x.size ≤ 4000000) → (∃ n, R7_15 n ((v45 : Int) + 1) (h1 ++ [fin7 (h2 ++ words7 h0 v51 ((x0.getD v45 []).drop v51))]) x0 h0 ds) → ∃ n, R7_19 n (v51 : Int) h2 x0 (v45 : Int) h0 h1 ds := by
  intro k
  induction k with
  | zero =>
    intro v51 h2 hk h2l h2s ⟨n, hn⟩
    rw [drop_end _ v51 (by omega)] at hn
    simp only [words7, List.append_nil] at hn
    obtain ⟨p1, p2⟩ := finpre7 (w := h2) (by omega) h2s
    refine ⟨n + 1, ?_⟩
    rw [R7_19]
    simp only [Int.toNat_natCast]
    rw [if_neg (by simp only [decide_eq_true_eq]; omega)]
    exact ⟨p1, p2, by omega, by rw [i64_iff]; omega, hn⟩
  | succ k ih =>
    intro v51 h2 hk h2l h2s hn
    have h5 : v51 < (x0.getD v45 []).length := by omega
    have hcell := hcov v51 h5
    have hg := wget7 hw v51
    rw [drop_get _ v51 ByteArray.empty h5] at hn
    simp only [words7] at hn
    have hsz := wdsize7 hw hcell
    obtain ⟨n, hn⟩ := ih (v51 + 1) (h2 ++ [wd7 h0 v51 ((x0.getD v45 []).getD v51 ByteArray.empty)]) (by omega) (by rw [List.length_append, h2l]; rfl) (fun x hx => by
      rcases List.mem_append.1 hx with hx | hx
      · exact h2s x hx
      · rw [List.mem_singleton.1 hx]; exact hsz) (by rw [List.append_assoc, List.singleton_append]; exact hn)
    have hsz2 : ((x0.getD v45 []).getD v51 ByteArray.empty).size + (g21_0 (ByteArray.mk #[32]) (h0.getD v51 0 - ((((x0.getD v45 []).getD v51 ByteArray.empty).size : Nat) : Int))).size ≤ 4000000 := by
      have := hsz
      unfold wd7 at this
      rwa [ByteArray.size_append] at this
    have s1 : (ByteArray.mk #[32]).size = 1 := rfl
    have hlen := hw.1
    refine ⟨n + 1, ?_⟩
    rw [R7_19]
    simp only [Int.toNat_natCast]
    rw [if_pos (by simp only [decide_eq_true_eq]; omega)]
    exact ⟨by omega, by omega, by omega, by omega, by rw [i64_iff]; omega, ⟨by omega, by rw [s1]; omega⟩, by omega, by omega, by rw [i64_iff]; omega, hn⟩

theorem l157 {h0 : List Int} (hw : Wid7 h0) (hx : x0.length ≤ 1100000) (hr : ∀ r ∈ x0, r.length ≤ 12 ∧ ∀ c ∈ r, c.size ≤ 4000000) (hcov : ∀ r ∈ x0, ∀ j, j < r.length → (((r.getD j ByteArray.empty).size : Nat) : Int) ≤ h0.getD j 0) : ∀ (k v45 : Nat) (h1 : List ByteArray), v45 + k = x0.length → h1.length = v45 →
    ∃ n, R7_15 n (v45 : Int) h1 x0 h0 [⟨.sl .str, g24_0 (h1 ++ (x0.drop v45).map (line7 h0))⟩, ⟨.int .i64, g24_1 (h1 ++ (x0.drop v45).map (line7 h0))⟩] := by
  intro k
  induction k with
  | zero =>
    intro v45 h1 hk hl
    refine ⟨1, ?_⟩
    rw [R7_15, if_neg (by simp only [decide_eq_true_eq]; omega), drop_end _ v45 (by omega)]
    simp
  | succ k ih =>
    intro v45 h1 hk hl
    have h7 : v45 < x0.length := by omega
    have hm := mem_getD x0 v45 [] h7
    obtain ⟨r1, r2⟩ := hr _ hm
    obtain ⟨n, hn⟩ := ih (v45 + 1) (h1 ++ [line7 h0 (x0.getD v45 [])]) (by omega) (by rw [List.length_append, hl]; rfl)
    have e : h1 ++ [line7 h0 (x0.getD v45 [])] ++ List.map (line7 h0) (x0.drop (v45 + 1)) = h1 ++ List.map (line7 h0) (x0.drop v45) := by
      rw [drop_get x0 v45 [] h7]; simp
    have e1 : (((v45 + 1 : Nat)) : Int) = (v45 : Int) + 1 := by omega
    rw [e, e1] at hn
    obtain ⟨n', hn'⟩ := l197 (h1 := h1) (v45 := v45) hw r1 r2 (hcov _ hm) (by omega) (by omega) (x0.getD v45 []).length 0 [] (by omega) rfl (fun x hx => by cases hx) ⟨n, hn⟩
    refine ⟨n' + 1, ?_⟩
    rw [R7_15, if_pos (by simp only [decide_eq_true_eq]; omega)]
    exact ⟨by omega, by omega, hn'⟩

theorem l87 {v20 : Nat} (hr : (x0.getD v20 []).length ≤ 12) (hc : ∀ c ∈ x0.getD v20 [], c.size ≤ 4000000) (hv : v20 < 1100000) :
    ∀ (k v26 : Nat) (h0 : List Int), v26 + k = (x0.getD v20 []).length → Wid7 h0 → (∃ n, R7_5 n ((v20 : Int) + 1) (row7 v26 ((x0.getD v20 []).drop v26) h0) x0 ds) → ∃ n, R7_8 n (v26 : Int) h0 x0 (v20 : Int) ds := by
  intro k
  induction k with
  | zero =>
    intro v26 h0 hk hw ⟨n, hn⟩
    rw [drop_end _ v26 (by omega)] at hn
    refine ⟨n + 1, ?_⟩
    rw [R7_8]
    simp only [Int.toNat_natCast]
    rw [if_neg (by simp only [decide_eq_true_eq]; omega)]
    exact ⟨by rw [i64_iff]; omega, hn⟩
  | succ k ih =>
    intro v26 h0 hk hw hn
    have h5 : v26 < (x0.getD v20 []).length := by omega
    have hcell := hc _ (mem_getD (x0.getD v20 []) v26 ByteArray.empty h5)
    have hlen := hw.1
    rw [drop_get _ v26 ByteArray.empty h5] at hn
    simp only [row7] at hn
    obtain ⟨n, hn⟩ := ih (v26 + 1) _ (by omega) (wup7 hw v26 hcell) hn
    refine ⟨n + 1, ?_⟩
    rw [R7_8]
    simp only [Int.toNat_natCast]
    rw [if_pos (by simp only [decide_eq_true_eq]; omega)]
    exact ⟨by omega, by omega, by omega, by omega, by omega, by omega, by rw [i64_iff]; omega, hn⟩

theorem l57 (hx : x0.length ≤ 1100000) (hr : ∀ r ∈ x0, r.length ≤ 12 ∧ ∀ c ∈ r, c.size ≤ 4000000) : ∀ (k v20 : Nat) (h0 : List Int), v20 + k = x0.length → Wid7 h0 → (∃ n, R7_15 n 0 [] x0 ((x0.drop v20).foldl (fun h r => row7 0 r h) h0) ds) → ∃ n, R7_5 n (v20 : Int) h0 x0 ds := by
  intro k
  induction k with
  | zero =>
    intro v20 h0 hk hw ⟨n, hn⟩
    rw [drop_end _ v20 (by omega)] at hn
    refine ⟨n + 1, ?_⟩
    rw [R7_5, if_neg (by simp only [decide_eq_true_eq]; omega)]
    exact hn
  | succ k ih =>
    intro v20 h0 hk hw hn
    have h4 : v20 < x0.length := by omega
    obtain ⟨r1, r2⟩ := hr _ (mem_getD x0 v20 [] h4)
    rw [drop_get x0 v20 [] h4, List.foldl_cons] at hn
    obtain ⟨n, hn⟩ := ih (v20 + 1) (row7 0 (x0.getD v20 []) h0) (by omega) (wrow7 _ 0 h0 hw r2) hn
    have e1 : (((v20 + 1 : Nat)) : Int) = (v20 : Int) + 1 := by omega
    rw [e1] at hn
    obtain ⟨n', hn'⟩ := l87 (x0 := x0) r1 r2 (by omega) (x0.getD v20 []).length 0 h0 (by omega) hw ⟨n, hn⟩
    refine ⟨n' + 1, ?_⟩
    rw [R7_5, if_pos (by simp only [decide_eq_true_eq]; omega)]
    exact ⟨by omega, by omega, hn'⟩
end

theorem w07 : Wid7 [0, 0, 0, 0, 0, 0, 0, 0, 0, 0, 0, 0] := ⟨rfl, by decide⟩

theorem top7 (x0 : List (List ByteArray)) (h : P7 x0) : ∃ n, R7 n x0 [⟨.sl .str, g7_0 x0⟩, ⟨.int .i64, g7_1 x0⟩] := by
  unfold g7_0 g7_1
  by_cases hc : g18c19_0 x0 = true
  · refine ⟨1, ?_⟩
    rw [R7, if_pos hc, if_pos hc, if_pos hc]
  · have h := h (Bool.eq_false_iff.2 hc)
    obtain ⟨i1, i2⟩ := foldcov7 x0 _ w07 h.2
    obtain ⟨n, hn⟩ := l157 (x0 := x0) (h0 := wide7 x0) i1 h.1 h.2 i2 x0.length 0 [] (by omega) rfl
    obtain ⟨n', hn'⟩ := l57 (x0 := x0) h.1 h.2 x0.length 0 [0, 0, 0, 0, 0, 0, 0, 0, 0, 0, 0, 0] (by omega) w07 ⟨n, hn⟩
    refine ⟨n' + 1, ?_⟩
    rw [R7, if_neg hc, if_neg hc, if_neg hc]
    exact hn'

def S7 : Am.Spec := { sig := sig7, pre := fun ⟨x0, _⟩ => P7 x0, res := fun ⟨x0, _⟩ => [⟨.sl .str, g7_0 x0⟩, ⟨.int .i64, g7_1 x0⟩] }
theorem con7 : Contract Tryd.prog 7 S7 := contract_of Tryd.func7 hb7 (Nat.le_of_ble_eq_true (by kernel_rfl)) (fun ⟨x0, _⟩ h hwf K q =>
  let ⟨n, hn⟩ := top7 x0 h
  (snd7 n).1 x0 _ hn K q)

end
end Go.Proofs.YtkokplahkiaoaaaDoor

/- Function 8 (laws.eqStringS): its runs between cut points. Written by a program of this repo (gen). -/
set_option linter.unusedVariables false
set_option linter.unusedSimpArgs false
set_option maxRecDepth 100000
namespace Go.Proofs.YtkokplahkiaoaaaDoor
open Go Go.Am Go.Proofs
noncomputable section
def ext8 : Ext := []
theorem ext8Ok : ExtOk Tryd.prog ext8 := trivial

noncomputable def b8 : Code := bodyOf Tryd.f8
theorem hb8 : Tryd.f8.body = some b8 := by kernel_rfl
def sig8 : List AT := [AT.v (Ty.sl Ty.str), AT.v (Ty.sl Ty.str)]
def tys8 : List Ty := [Ty.bool]
def kds8 : List RK := []
def oks8 : List AT := owns sig8
def E8_4 (v5 : Int) (x0 : List ByteArray) (x1 : List ByteArray) : Env := [(0, PV.a (Atom.sl Ty.str x0)), (1, PV.a (Atom.sl Ty.str x1)), (5, PV.a (Atom.val (Value.int IntKind.i64 v5)))]
def L8_4 (v5 : Int) (x0 : List ByteArray) (x1 : List ByteArray) : Heap := []
mutual
def R8 : Nat → List ByteArray → List ByteArray → List Dyn → Prop
  | 0, _, _, _ => False
  | n + 1, x0, x1, ds => (if ((↑(List.length x0) : Int) != (↑(List.length x1) : Int)) = true then (ds = [Dyn.mk Ty.bool Bool.false]) else (R8_4 n (0) (x0) (x1) ds))
def R8_4 : Nat → Int → List ByteArray → List ByteArray → List Dyn → Prop
  | 0, _, _, _, _ => False
  | n + 1, v5, x0, x1, ds => (if (Decidable.decide (v5 < (↑(List.length x0) : Int))) = true then ((0 ≤ v5) ∧ (v5 < (↑(List.length x0) : Int)) ∧ ((0 ≤ v5) ∧ (v5 < (↑(List.length x1) : Int)) ∧ (if (!ByteArray.toList (List.getD x0 (Int.toNat v5) ByteArray.empty) == ByteArray.toList (List.getD x1 (Int.toNat v5) ByteArray.empty)) = true then (ds = [Dyn.mk Ty.bool Bool.false]) else ((InR IntKind.i64 (v5 + 1)) ∧ (R8_4 n (v5 + 1) (x0) (x1) ds))))) else (ds = [Dyn.mk Ty.bool Bool.true]))
end
theorem snd8 : ∀ n, (∀ (x0 : List ByteArray) (x1 : List ByteArray) ds, R8 n x0 x1 ds → ∀ K q, AtV Tryd.prog 8 (PostR kds8 oks8 ds [] [] q K) 26 K q [] [.code b8] (entE 0 0 sig8 (x0, x1, ())) (entL sig8 (x0, x1, ()))) ∧ (∀ (v5 : Int) (x0 : List ByteArray) (x1 : List ByteArray) ds, R8_4 n v5 x0 x1 ds → ∀ K q, AtV Tryd.prog 8 (PostR kds8 oks8 ds [] [] q K) 26 K q [] (cutAt b8 4) (E8_4 v5 x0 x1) (L8_4 v5 x0 x1)) := by
  intro n
  induction n with
  | zero => exact ⟨fun _ _ _ h => by simp only [R8] at h, fun _ _ _ _ h => by simp only [R8_4] at h⟩
  | succ n ih =>
  obtain ⟨ih, ih4⟩ := ih
  refine ⟨?_, ?_⟩
  · intro x0 x1 ds h K q
    rw [R8] at h
    by_cases b0 : ((↑(List.length x0) : Int) != (↑(List.length x1) : Int)) = true
    · rw [if_pos b0] at h
      subst h
      exact AtV.ret Tryd.func8 tabOk ext8Ok mixed false [] tys8 [true] (a1 b0 trivial) (by kernel_rfl)
    · rw [if_neg b0] at h
      replace b0 := Bool.eq_false_iff.2 b0
      exact AtV.go tabOk ext8Ok mixed false [] [] [0, 1, 5] [] [false] (a1 b0 trivial) (ih4 _ _ _ _ h K q) (by kernel_rfl)

  · intro v5 x0 x1 ds h K q
    rw [R8_4] at h
    by_cases b0 : (Decidable.decide (v5 < (↑(List.length x0) : Int))) = true
    · rw [if_pos b0] at h
      obtain ⟨s0, s1, h⟩ := h
      obtain ⟨s2, s3, h⟩ := h
      by_cases b1 : (!ByteArray.toList (List.getD x0 (Int.toNat v5) ByteArray.empty) == ByteArray.toList (List.getD x1 (Int.toNat v5) ByteArray.empty)) = true
      · rw [if_pos b1] at h
        subst h
        exact AtV.ret Tryd.func8 tabOk ext8Ok mixed false [] tys8 [true, true] (a1 b0 (a1 s0 (a1 s1 (a1 s2 (a1 s3 (a1 b1 trivial)))))) (by kernel_rfl)
      · rw [if_neg b1] at h
        replace b1 := Bool.eq_false_iff.2 b1
        obtain ⟨s4, h⟩ := h
        exact AtV.go tabOk ext8Ok mixed false [] [] [0, 1, 5] [] [true, false] (a1 b0 (a1 s0 (a1 s1 (a1 s2 (a1 s3 (a1 b1 (a1 s4 trivial))))))) (ih4 _ _ _ _ h K q) (by kernel_rfl)
    · rw [if_neg b0] at h
      replace b0 := Bool.eq_false_iff.2 b0
      subst h
      exact AtV.ret Tryd.func8 tabOk ext8Ok mixed false [] tys8 [false] (a1 b0 trivial) (by kernel_rfl)



theorem eq8 (x0 x1 : List (ByteArray)) (hl : x0.length = x1.length) (hm : x0.length ≤ maxLen) : ∀ k i : Nat, i + k = x0.length → R8_4 (k + 1) (i : Int) x0 x1 [⟨.bool, decide (x0.drop i = x1.drop i)⟩] := by
  intro k
  induction k with
  | zero =>
    intro i hi
    have h1 : ¬ (i : Int) < (x0.length : Int) := by omega
    rw [R8_4, if_neg (by simpa using h1), drop_end x0 i (by omega), drop_end x1 i (by omega)]
    simp
  | succ k ih =>
    intro i hi
    have h1 : (i : Int) < (x0.length : Int) := by omega
    rw [R8_4, if_pos (by simpa using h1)]
    refine ⟨by omega, h1, by omega, by omega, ?_⟩
    simp only [Int.toNat_natCast]
    rw [drop_get x0 i ByteArray.empty (by omega), drop_get x1 i ByteArray.empty (by omega)]
    by_cases he : x0.getD i ByteArray.empty = x1.getD i ByteArray.empty
    · have hd := (bytes_eq _ _).2 he
      rw [if_neg (by rw [hd]; simp)]
      refine ⟨inR_up hm (by omega), ?_⟩
      have := ih (i + 1) (by omega)
      simp only [he, List.cons.injEq, true_and]
      exact this
    · have hd : (ByteArray.toList (x0.getD i ByteArray.empty) == ByteArray.toList (x1.getD i ByteArray.empty)) = false :=
        (bytes_ne _ _).2 he
      rw [if_pos (by rw [hd]; rfl)]
      simp only [he, List.cons.injEq, false_and, decide_false]

def g8_0 (x0 x1 : List (ByteArray)) : Bool := decide (x0 = x1)
def P8 (x0 x1 : List (ByteArray)) : Prop := True
def S8 : Am.Spec := { sig := sig8, pre := fun ⟨x0, x1, _⟩ => P8 x0 x1, res := fun ⟨x0, x1, _⟩ => [⟨Ty.bool, g8_0 x0 x1⟩] }
theorem con8 : Contract Tryd.prog 8 S8 := contract_of Tryd.func8 hb8 (Nat.le_of_ble_eq_true (by kernel_rfl)) (fun ⟨x0, x1, _⟩ h hwf K q => by
  refine (snd8 (x0.length + 2)).1 x0 x1 _ ?_ K q
  show R8 (x0.length + 1 + 1) x0 x1 [⟨Ty.bool, decide (x0 = x1)⟩]
  rw [R8]
  by_cases hl : x0.length = x1.length
  · rw [if_neg (by simp [hl])]
    have := eq8 x0 x1 hl hwf.1.1 x0.length 0 (by omega)
    simpa using this
  · rw [if_pos (by simp; omega)]
    have : x0 ≠ x1 := fun h => hl (by rw [h])
    simp [this])

end
end Go.Proofs.YtkokplahkiaoaaaDoor

/- Function 9 (laws.eqStringSS): its runs between cut points. Written by a program of this repo (gen). -/
set_option linter.unusedVariables false
set_option linter.unusedSimpArgs false
set_option maxRecDepth 100000
namespace Go.Proofs.YtkokplahkiaoaaaDoor
open Go Go.Am Go.Proofs
noncomputable section
def ext9 : Ext := [(8, S8)]
theorem call9_8 : Callable Tryd.prog 8 := ⟨Tryd.f8, Tryd.func8, by kernel_rfl, by kernel_rfl⟩
theorem ext9Ok : ExtOk Tryd.prog ext9 := ⟨⟨call9_8, con8⟩, trivial⟩

noncomputable def b9 : Code := bodyOf Tryd.f9
theorem hb9 : Tryd.f9.body = some b9 := by kernel_rfl
def sig9 : List AT := [AT.v (Ty.sl (Ty.sl Ty.str)), AT.v (Ty.sl (Ty.sl Ty.str))]
def tys9 : List Ty := [Ty.bool]
def kds9 : List RK := []
def oks9 : List AT := owns sig9
def E9_4 (v5 : Int) (x0 : List (List ByteArray)) (x1 : List (List ByteArray)) : Env := [(0, PV.a (Atom.sl (Ty.sl Ty.str) x0)), (1, PV.a (Atom.sl (Ty.sl Ty.str) x1)), (5, PV.a (Atom.val (Value.int IntKind.i64 v5)))]
def L9_4 (v5 : Int) (x0 : List (List ByteArray)) (x1 : List (List ByteArray)) : Heap := []
mutual
def R9 : Nat → List (List ByteArray) → List (List ByteArray) → List Dyn → Prop
  | 0, _, _, _ => False
  | n + 1, x0, x1, ds => (if ((↑(List.length x0) : Int) != (↑(List.length x1) : Int)) = true then (ds = [Dyn.mk Ty.bool Bool.false]) else (R9_4 n (0) (x0) (x1) ds))
def R9_4 : Nat → Int → List (List ByteArray) → List (List ByteArray) → List Dyn → Prop
  | 0, _, _, _, _ => False
  | n + 1, v5, x0, x1, ds => (if (Decidable.decide (v5 < (↑(List.length x0) : Int))) = true then ((0 ≤ v5) ∧ (v5 < (↑(List.length x0) : Int)) ∧ ((0 ≤ v5) ∧ (v5 < (↑(List.length x1) : Int)) ∧ (if (!g8_0 (List.getD x0 (Int.toNat v5) []) (List.getD x1 (Int.toNat v5) [])) = true then (ds = [Dyn.mk Ty.bool Bool.false]) else ((InR IntKind.i64 (v5 + 1)) ∧ (R9_4 n (v5 + 1) (x0) (x1) ds))))) else (ds = [Dyn.mk Ty.bool Bool.true]))
end
theorem snd9 : ∀ n, (∀ (x0 : List (List ByteArray)) (x1 : List (List ByteArray)) ds, R9 n x0 x1 ds → ∀ K q, AtV Tryd.prog 9 (PostR kds9 oks9 ds [] [] q K) 27 K q [] [.code b9] (entE 0 0 sig9 (x0, x1, ())) (entL sig9 (x0, x1, ()))) ∧ (∀ (v5 : Int) (x0 : List (List ByteArray)) (x1 : List (List ByteArray)) ds, R9_4 n v5 x0 x1 ds → ∀ K q, AtV Tryd.prog 9 (PostR kds9 oks9 ds [] [] q K) 27 K q [] (cutAt b9 4) (E9_4 v5 x0 x1) (L9_4 v5 x0 x1)) := by
  intro n
  induction n with
  | zero => exact ⟨fun _ _ _ h => by simp only [R9] at h, fun _ _ _ _ h => by simp only [R9_4] at h⟩
  | succ n ih =>
  obtain ⟨ih, ih4⟩ := ih
  refine ⟨?_, ?_⟩
  · intro x0 x1 ds h K q
    rw [R9] at h
    by_cases b0 : ((↑(List.length x0) : Int) != (↑(List.length x1) : Int)) = true
    · rw [if_pos b0] at h
      subst h
      exact AtV.ret Tryd.func9 tabOk ext9Ok mixed false [] tys9 [true] (a1 b0 trivial) (by kernel_rfl)
    · rw [if_neg b0] at h
      replace b0 := Bool.eq_false_iff.2 b0
      exact AtV.go tabOk ext9Ok mixed false [] [] [0, 1, 5] [] [false] (a1 b0 trivial) (ih4 _ _ _ _ h K q) (by kernel_rfl)

  · intro v5 x0 x1 ds h K q
    rw [R9_4] at h
    by_cases b0 : (Decidable.decide (v5 < (↑(List.length x0) : Int))) = true
    · rw [if_pos b0] at h
      obtain ⟨s0, s1, h⟩ := h
      obtain ⟨s2, s3, h⟩ := h
      by_cases b1 : (!g8_0 (List.getD x0 (Int.toNat v5) []) (List.getD x1 (Int.toNat v5) [])) = true
      · rw [if_pos b1] at h
        subst h
        exact AtV.ret Tryd.func9 tabOk ext9Ok mixed false [] tys9 [true, true] (a1 b0 (a1 s0 (a1 s1 (a1 s2 (a1 s3 (a1 trivial (a1 b1 trivial))))))) (by kernel_rfl)
      · rw [if_neg b1] at h
        replace b1 := Bool.eq_false_iff.2 b1
        obtain ⟨s4, h⟩ := h
        exact AtV.go tabOk ext9Ok mixed false [] [] [0, 1, 5] [] [true, false] (a1 b0 (a1 s0 (a1 s1 (a1 s2 (a1 s3 (a1 trivial (a1 b1 (a1 s4 trivial)))))))) (ih4 _ _ _ _ h K q) (by kernel_rfl)
    · rw [if_neg b0] at h
      replace b0 := Bool.eq_false_iff.2 b0
      subst h
      exact AtV.ret Tryd.func9 tabOk ext9Ok mixed false [] tys9 [false] (a1 b0 trivial) (by kernel_rfl)



theorem eq9 (x0 x1 : List (List ByteArray)) (hl : x0.length = x1.length) (hm : x0.length ≤ maxLen) : ∀ k i : Nat, i + k = x0.length → R9_4 (k + 1) (i : Int) x0 x1 [⟨.bool, decide (x0.drop i = x1.drop i)⟩] := by
  intro k
  induction k with
  | zero =>
    intro i hi
    have h1 : ¬ (i : Int) < (x0.length : Int) := by omega
    rw [R9_4, if_neg (by simpa using h1), drop_end x0 i (by omega), drop_end x1 i (by omega)]
    simp
  | succ k ih =>
    intro i hi
    have h1 : (i : Int) < (x0.length : Int) := by omega
    rw [R9_4, if_pos (by simpa using h1)]
    refine ⟨by omega, h1, by omega, by omega, ?_⟩
    simp only [Int.toNat_natCast]
    rw [drop_get x0 i [] (by omega), drop_get x1 i [] (by omega)]
    by_cases he : x0.getD i [] = x1.getD i []
    · rw [if_neg (by simp only [g8_0, he]; simp)]
      refine ⟨inR_up hm (by omega), ?_⟩
      have := ih (i + 1) (by omega)
      simp only [he, List.cons.injEq, true_and]
      exact this
    · rw [if_pos (by simp only [g8_0, he]; simp)]
      simp only [he, List.cons.injEq, false_and, decide_false]

def g9_0 (x0 x1 : List (List ByteArray)) : Bool := decide (x0 = x1)
def P9 (x0 x1 : List (List ByteArray)) : Prop := True
def S9 : Am.Spec := { sig := sig9, pre := fun ⟨x0, x1, _⟩ => P9 x0 x1, res := fun ⟨x0, x1, _⟩ => [⟨Ty.bool, g9_0 x0 x1⟩] }
theorem con9 : Contract Tryd.prog 9 S9 := contract_of Tryd.func9 hb9 (Nat.le_of_ble_eq_true (by kernel_rfl)) (fun ⟨x0, x1, _⟩ h hwf K q => by
  refine (snd9 (x0.length + 2)).1 x0 x1 _ ?_ K q
  show R9 (x0.length + 1 + 1) x0 x1 [⟨Ty.bool, decide (x0 = x1)⟩]
  rw [R9]
  by_cases hl : x0.length = x1.length
  · rw [if_neg (by simp [hl])]
    have := eq9 x0 x1 hl hwf.1.1 x0.length 0 (by omega)
    simpa using this
  · rw [if_pos (by simp; omega)]
    have : x0 ≠ x1 := fun h => hl (by rw [h])
    simp [this])

end
end Go.Proofs.YtkokplahkiaoaaaDoor

/- Function 25 (laws.markText): its runs between cut points. Written by a program of this repo (gen). -/
set_option linter.unusedVariables false
set_option linter.unusedSimpArgs false
set_option maxRecDepth 100000
namespace Go.Proofs.YtkokplahkiaoaaaDoor
open Go Go.Am Go.Proofs
noncomputable section
def ext25 : Ext := []
theorem ext25Ok : ExtOk Tryd.prog ext25 := trivial

noncomputable def b25 : Code := bodyOf Tryd.f25
theorem hb25 : Tryd.f25.body = some b25 := by kernel_rfl
def sig25 : List AT := [AT.v (Ty.int IntKind.i64)]
def tys25 : List Ty := [Ty.str]
def kds25 : List RK := []
def oks25 : List AT := owns sig25
def E25_4 (v3 : ByteArray) (x0 : Int) : Env := [(0, PV.a (Atom.val (Value.int IntKind.i64 x0))), (3, PV.a (Atom.val (Value.string v3)))]
def L25_4 (v3 : ByteArray) (x0 : Int) : Heap := []
mutual
def R25 : Nat → Int → List Dyn → Prop
  | 0, _, _ => False
  | n + 1, x0, ds => (if (Decidable.decide (x0 ≤ 0)) = true then (ds = [Dyn.mk Ty.str (ByteArray.mk #[109, 48])]) else (R25_4 n (ByteArray.mk #[]) (x0) ds))
def R25_4 : Nat → ByteArray → Int → List Dyn → Prop
  | 0, _, _, _ => False
  | n + 1, v3, x0, ds => (if (Decidable.decide (x0 > 0)) = true then ((InR IntKind.i64 (Int.tmod x0 10)) ∧ ((InR IntKind.i64 (48 + Int.tmod x0 10)) ∧ ((InR IntKind.u8 (48 + Int.tmod x0 10)) ∧ ((ByteArray.size (bytesStr [48 + Int.tmod x0 10]) + ByteArray.size v3 ≤ 9223372036854775807) ∧ ((InR IntKind.i64 (Int.tdiv x0 10)) ∧ (R25_4 n (bytesStr [48 + Int.tmod x0 10] ++ v3) (Int.tdiv x0 10) ds)))))) else ((1 + ByteArray.size v3 ≤ 9223372036854775807) ∧ (ds = [Dyn.mk Ty.str (ByteArray.mk #[109] ++ v3)])))
end
theorem snd25 : ∀ n, (∀ (x0 : Int) ds, R25 n x0 ds → ∀ K q, AtV Tryd.prog 25 (PostR kds25 oks25 ds [] [] q K) 20 K q [] [.code b25] (entE 0 0 sig25 (x0, ())) (entL sig25 (x0, ()))) ∧ (∀ (v3 : ByteArray) (x0 : Int) ds, R25_4 n v3 x0 ds → ∀ K q, AtV Tryd.prog 25 (PostR kds25 oks25 ds [] [] q K) 20 K q [] (cutAt b25 4) (E25_4 v3 x0) (L25_4 v3 x0)) := by
  intro n
  induction n with
  | zero => exact ⟨fun _ _ h => by simp only [R25] at h, fun _ _ _ h => by simp only [R25_4] at h⟩
  | succ n ih =>
  obtain ⟨ih, ih4⟩ := ih
  refine ⟨?_, ?_⟩
  · intro x0 ds h K q
    rw [R25] at h
    by_cases b0 : (Decidable.decide (x0 ≤ 0)) = true
    · rw [if_pos b0] at h
      subst h
      exact AtV.ret Tryd.func25 tabOk ext25Ok mixed false [] tys25 [true] (a1 b0 trivial) (by kernel_rfl)
    · rw [if_neg b0] at h
      replace b0 := Bool.eq_false_iff.2 b0
      exact AtV.go tabOk ext25Ok mixed false [] [] [0, 3] [] [false] (a1 b0 trivial) (ih4 _ _ _ h K q) (by kernel_rfl)

  · intro v3 x0 ds h K q
    rw [R25_4] at h
    by_cases b0 : (Decidable.decide (x0 > 0)) = true
    · rw [if_pos b0] at h
      obtain ⟨s0, h⟩ := h
      obtain ⟨s1, h⟩ := h
      obtain ⟨s2, h⟩ := h
      obtain ⟨s3, h⟩ := h
      obtain ⟨s4, h⟩ := h
      exact AtV.go tabOk ext25Ok mixed false [] [] [0, 3] [] [true] (a1 b0 (a1 ((by decide) : (10 : Int) ≠ (0 : Int)) (a1 s0 (a1 s1 (a1 s2 (a1 s3 (a1 ((by decide) : (10 : Int) ≠ (0 : Int)) (a1 s4 trivial)))))))) (ih4 _ _ _ h K q) (by kernel_rfl)
    · rw [if_neg b0] at h
      replace b0 := Bool.eq_false_iff.2 b0
      obtain ⟨s0, h⟩ := h
      subst h
      exact AtV.ret Tryd.func25 tabOk ext25Ok mixed false [] tys25 [false] (a1 b0 (a1 s0 trivial)) (by kernel_rfl)



def loop25 : Nat → ByteArray → Int → ByteArray
  | 0, v, _ => v
  | n + 1, v, x => if 0 < x then loop25 n (bytesStr [48 + Int.tmod x 10] ++ v) (Int.tdiv x 10) else v

theorem run25 : ∀ (n : Nat) (v : ByteArray) (x : Int), x < 10 ^ n → InR .i64 x → v.size + n ≤ 1000 → R25_4 (n + 1) v x [⟨.str, ByteArray.mk #[109] ++ loop25 n v x⟩] := by
  intro n
  induction n with
  | zero =>
    intro v x h1 _ h2
    rw [R25_4, if_neg (by simp at h1 ⊢; omega)]
    exact ⟨by omega, rfl⟩
  | succ n ih =>
    intro v x h1 hi h2
    rw [i64_iff] at hi
    rw [R25_4]
    by_cases hx : 0 < x
    · rw [if_pos (by simpa using hx)]
      have e1 : Int.tmod x 10 = x % 10 := Int.tmod_eq_emod_of_nonneg (by omega)
      have e2 : Int.tdiv x 10 = x / 10 := Int.tdiv_eq_ediv_of_nonneg (by omega)
      have hs : (bytesStr [48 + Int.tmod x 10]).size = 1 := bytesStr_size _
      have hp : (10 : Int) ^ (n + 1) = 10 * 10 ^ n := by rw [Int.pow_succ, Int.mul_comm]
      refine ⟨by rw [i64_iff, e1]; omega, by rw [i64_iff, e1]; omega, by rw [u8_iff, e1]; omega, by rw [hs]; omega, by rw [i64_iff, e2]; omega, ?_⟩
      have := ih (bytesStr [48 + Int.tmod x 10] ++ v) (Int.tdiv x 10) (by rw [e2]; omega) (by rw [i64_iff, e2]; omega) (by rw [ByteArray.size_append, hs]; omega)
      simp only [loop25, if_pos hx]
      exact this
    · rw [if_neg (by simp; omega)]
      simp only [loop25, if_neg hx]
      exact ⟨by omega, trivial⟩

def g25_0 (x0 : Int) : ByteArray := if x0 ≤ 0 then ByteArray.mk #[109, 48] else ByteArray.mk #[109] ++ loop25 19 (ByteArray.mk #[]) x0
def P25 (x0 : Int) : Prop := True

theorem top25 (x0 : Int) (hi : InR .i64 x0) : R25 21 x0 [⟨.str, g25_0 x0⟩] := by
  rw [R25]
  unfold g25_0
  by_cases h : x0 ≤ 0
  · rw [if_pos (by simpa using h), if_pos h]
  · rw [if_neg (by simpa using h), if_neg h]
    have hi' := hi
    rw [i64_iff] at hi'
    exact run25 19 _ x0 (by omega) hi (by decide)

def S25 : Am.Spec := { sig := sig25, pre := fun ⟨x0, _⟩ => P25 x0, res := fun ⟨x0, _⟩ => [⟨.str, g25_0 x0⟩] }
theorem con25 : Contract Tryd.prog 25 S25 := contract_of Tryd.func25 hb25 (Nat.le_of_ble_eq_true (by kernel_rfl)) (fun ⟨x0, _⟩ h hwf K q =>
  (snd25 _).1 x0 _ (top25 x0 hwf.1) K q)

end
end Go.Proofs.YtkokplahkiaoaaaDoor

/- Function 11 (laws.markStringS): its runs between cut points. Written by a program of this repo (gen). -/
set_option linter.unusedVariables false
set_option linter.unusedSimpArgs false
set_option maxRecDepth 100000
namespace Go.Proofs.YtkokplahkiaoaaaDoor
open Go Go.Am Go.Proofs
noncomputable section
def ext11 : Ext := [(25, S25)]
theorem call11_25 : Callable Tryd.prog 25 := ⟨Tryd.f25, Tryd.func25, by kernel_rfl, by kernel_rfl⟩
theorem ext11Ok : ExtOk Tryd.prog ext11 := ⟨⟨call11_25, con25⟩, trivial⟩

noncomputable def b11 : Code := bodyOf Tryd.f11
theorem hb11 : Tryd.f11.body = some b11 := by kernel_rfl
def sig11 : List AT := [AT.own Ty.str, AT.v (Ty.int IntKind.i64)]
def tys11 : List Ty := [Ty.int IntKind.i64]
def kds11 : List RK := []
def oks11 : List AT := owns sig11
def E11_2 (v5 : Int) (x1 : Int) (x0 : List ByteArray) : Env := [(0, PV.a (Atom.osl 0 Option.none)), (1, PV.a (Atom.val (Value.int IntKind.i64 x1))), (5, PV.a (Atom.val (Value.int IntKind.i64 v5)))]
def L11_2 (v5 : Int) (x1 : Int) (x0 : List ByteArray) : Heap := [Option.some (Arr.mk Ty.str x0 Bool.false Option.none Option.none)]
mutual
def R11 : Nat → List ByteArray → Int → List Dyn → List (Option Lst) → Prop
  | 0, _, _, _, _ => False
  | n + 1, x0, x1, ds, us => (R11_2 n (0) (x1) (x0) ds us)
def R11_2 : Nat → Int → Int → List ByteArray → List Dyn → List (Option Lst) → Prop
  | 0, _, _, _, _, _ => False
  | n + 1, v5, x1, x0, ds, us => (if (Decidable.decide (v5 < (↑(List.length x0) : Int))) = true then ((0 ≤ v5) ∧ (v5 < (↑(List.length x0) : Int)) ∧ ((InR IntKind.i64 (x1 + 1)) ∧ ((InR IntKind.i64 (v5 + 1)) ∧ (R11_2 n (v5 + 1) (x1 + 1) (List.set x0 (Int.toNat v5) (g25_0 x1)) ds us)))) else (ds = [Dyn.mk (Ty.int IntKind.i64) x1] ∧ us = [Option.some (Lst.mk Ty.str x0)]))
end
theorem snd11 : ∀ n, (∀ (x0 : List ByteArray) (x1 : Int) ds us, R11 n x0 x1 ds us → ∀ K q, AtV Tryd.prog 11 (PostR kds11 oks11 ds us [0] q K) 20 K q [0] [.code b11] (entE 0 0 sig11 (x0, x1, ())) (entL sig11 (x0, x1, ()))) ∧ (∀ (v5 : Int) (x1 : Int) (x0 : List ByteArray) ds us, R11_2 n v5 x1 x0 ds us → ∀ K q, AtV Tryd.prog 11 (PostR kds11 oks11 ds us [0] q K) 20 K q [0] (cutAt b11 2) (E11_2 v5 x1 x0) (L11_2 v5 x1 x0)) := by
  intro n
  induction n with
  | zero => exact ⟨fun _ _ _ _ h => by simp only [R11] at h, fun _ _ _ _ _ h => by simp only [R11_2] at h⟩
  | succ n ih =>
  obtain ⟨ih, ih2⟩ := ih
  refine ⟨?_, ?_⟩
  · intro x0 x1 ds us h K q
    rw [R11] at h
    exact AtV.go tabOk ext11Ok mixed false [] [] [0, 1, 5] [0] [] trivial (ih2 _ _ _ _ _ h K q) (by kernel_rfl)

  · intro v5 x1 x0 ds us h K q
    rw [R11_2] at h
    by_cases b0 : (Decidable.decide (v5 < (↑(List.length x0) : Int))) = true
    · rw [if_pos b0] at h
      obtain ⟨s0, s1, h⟩ := h
      obtain ⟨s2, h⟩ := h
      obtain ⟨s3, h⟩ := h
      exact AtV.go tabOk ext11Ok mixed false [] [] [0, 1, 5] [0] [true] (a1 b0 (a1 trivial (a1 s0 (a1 s1 (a1 s2 (a1 s3 trivial)))))) (ih2 _ _ _ _ _ h K q) (by kernel_rfl)
    · rw [if_neg b0] at h
      replace b0 := Bool.eq_false_iff.2 b0
      obtain ⟨h, h'⟩ := h; subst h; subst h'
      exact AtV.ret Tryd.func11 tabOk ext11Ok mixed false [] tys11 [false] (a1 b0 trivial) (by kernel_rfl)



def M11 (x1 : Int) (n : Nat) : List ByteArray := (List.range n).map fun (j : Nat) => g25_0 (x1 + (j : Int))

theorem M11_len (x1 : Int) (n : Nat) : (M11 x1 n).length = n := by simp [M11]

theorem M11_step (x1 : Int) (x0 : List ByteArray) (i : Nat) (h : i < x0.length) : (M11 x1 i ++ x0.drop i).set i (g25_0 (x1 + (i : Int))) = M11 x1 (i + 1) ++ x0.drop (i + 1) := by
  rw [List.set_append_right _ _ (by rw [M11_len]; exact Nat.le_refl _), M11_len, Nat.sub_self, List.drop_eq_getElem_cons h, List.set_cons_zero]
  simp [M11, List.range_succ]

theorem run11 (x0 : List ByteArray) (x1 : Int) (hm : x0.length ≤ maxLen) (h0 : 0 ≤ x1) (h1 : x1 + x0.length ≤ 9223372036854775807) : ∀ (k i : Nat), i + k = x0.length →
    R11_2 (k + 1) (i : Int) (x1 + (i : Int)) (M11 x1 i ++ x0.drop i) [⟨.int .i64, x1 + (x0.length : Int)⟩] [some ⟨.str, M11 x1 x0.length⟩] := by
  intro k
  induction k with
  | zero =>
    intro i hi
    have hl : (M11 x1 i ++ x0.drop i).length = x0.length := by simp [M11_len]; omega
    rw [R11_2, if_neg (by rw [hl]; simp; omega), drop_end x0 i (by omega), List.append_nil]
    have : i = x0.length := by omega
    subst this
    exact ⟨rfl, rfl⟩
  | succ k ih =>
    intro i hi
    have hl : (M11 x1 i ++ x0.drop i).length = x0.length := by simp [M11_len]; omega
    rw [R11_2, if_pos (by rw [hl]; simp; omega), hl]
    simp only [Int.toNat_natCast]
    refine ⟨by omega, by omega, by rw [i64_iff]; omega, inR_up hm (by omega), ?_⟩
    rw [M11_step x1 x0 i (by omega), Int.add_assoc]
    exact ih (i + 1) (by omega)

def P11 (x0 : List ByteArray) (x1 : Int) : Prop := 0 ≤ x1 ∧ x1 + x0.length ≤ 9223372036854775807
def g11_0 (x0 : List ByteArray) (x1 : Int) : Int := x1 + (x0.length : Int)
def u11_0 (x0 : List ByteArray) (x1 : Int) : List ByteArray := M11 x1 x0.length

theorem top11 (x0 : List ByteArray) (x1 : Int) (hm : x0.length ≤ maxLen) (h : P11 x0 x1) : R11 (x0.length + 1 + 1) x0 x1 [⟨.int .i64, g11_0 x0 x1⟩] [some ⟨.str, u11_0 x0 x1⟩] := by
  rw [R11]
  have := run11 x0 x1 hm h.1 h.2 x0.length 0 (by omega)
  simpa [M11, g11_0, u11_0] using this

def S11 : Am.Spec := { sig := sig11, pre := fun ⟨x0, x1, _⟩ => P11 x0 x1, upd := fun ⟨x0, x1, _⟩ => [some ⟨.str, u11_0 x0 x1⟩], res := fun ⟨x0, x1, _⟩ => [⟨.int .i64, g11_0 x0 x1⟩] }
theorem con11 : Contract Tryd.prog 11 S11 := contract_of Tryd.func11 hb11 (Nat.le_of_ble_eq_true (by kernel_rfl)) (fun ⟨x0, x1, _⟩ h hwf K q =>
  (snd11 _).1 x0 x1 _ _ (top11 x0 x1 hwf.1.1 h) K q)

end
end Go.Proofs.YtkokplahkiaoaaaDoor

/- Function 10 (laws.markStringSS): its contract; by the kit's walk, the callee by its contract. -/
set_option linter.unusedVariables false
set_option linter.unusedSimpArgs false
set_option maxRecDepth 100000
namespace Go.Proofs.YtkokplahkiaoaaaDoor
open Go Go.Am Go.Proofs Go.RowKit

theorem mk10 (W : World) (xs : List ByteArray) (v : Value) (bs : List Nat) (kk : Int) (hgo : GOk W bs) (hp : P11 xs kk) (hi : InR .i64 kk) (hn : bs.Nodup) (ho : OwnSl W (OwnC W .str) 1 xs v bs) :
    Calls Tryd.prog 11 #[v, .int .i64 kk] W fun e w' => e = .returned (.int .i64 (kk + (xs.length : Int))) ∧ Kept bs W w' := by
  have e1 : ([bs, []] : List (List Nat)).flatten = bs := by simp
  refine (con11 W (Am.Good W ([bs, []] : List (List Nat)).flatten) (Am.Good W ([bs, []] : List (List Nat)).flatten) (xs, kk, ()) [v, .int .i64 kk] [bs, []] (by rw [e1]; exact hgo) (fun _ h => h) (fun _ h => h) hp ⟨v, _, _, _, rfl, rfl, ⟨v, rfl, ho⟩, _, _, _, _, rfl, rfl, ⟨rfl, rfl, hi⟩, rfl, rfl⟩ (by rw [e1]; exact hn)).mono ?_
  rintro e w' ⟨rs, ubs, rbs, F, rfl, hk, ⟨u, s, b1, bs1, rfl, rfl, ⟨cs, ho, hv'⟩, rfl, rfl⟩, _⟩
  obtain ⟨ho, _⟩ := ho
  have hv' : cs = [u] := hv'
  rw [ho] at hv'
  cases hv'
  rw [e1] at hk
  exact ⟨rfl, hk⟩

def tot10 : List (List ByteArray) → Nat
  | [] => 0
  | x :: r => x.length + tot10 r

theorem tot10_take (xs : List (List ByteArray)) : ∀ k, k < xs.length → tot10 (xs.take (k + 1)) = tot10 (xs.take k) + (xs.getD k []).length := by
  induction xs with
  | nil => intro k hk; simp at hk
  | cons x r ih =>
    intro k hk
    cases k with
    | zero => simp [tot10]
    | succ k =>
      have := ih k (by simpa using hk)
      simp only [List.take_succ_cons, tot10, this, List.getD_cons_succ]
      omega

theorem tot10_le (xs : List (List ByteArray)) : ∀ k, tot10 (xs.take k) ≤ tot10 xs := by
  induction xs with
  | nil => intro k; simp [tot10]
  | cons x r ih =>
    intro k
    cases k with
    | zero => simp [tot10]
    | succ k =>
      have := ih k
      simp only [List.take_succ_cons, tot10]
      omega

structure In10 (w wr : World) (b : Nat) (bss : List (List Nat)) (k : Nat) : Prop where
  kept : Kept (b :: bss.flatten) w wr
  same : ∀ q, q ∈ b :: (bss.drop k).flatten → wr.heap[q]? = w.heap[q]?

theorem In10.step {w wr w2 : World} {b : Nat} {bss : List (List Nat)} {k : Nat} (h : In10 w wr b bss k) (hkl : k < bss.length) (hn : (b :: bss.flatten).Nodup) (hlt : ∀ q ∈ b :: bss.flatten, q < w.heap.size) (hk : Kept (bss.getD k []) wr w2) : In10 w w2 b bss (k + 1) := by
  have hd : bss.drop k = bss.getD k [] :: bss.drop (k + 1) := drop_get bss k [] hkl
  have hsub : ∀ q, q ∈ (bss.drop k).flatten → q ∈ bss.flatten := fun q hq => by
    obtain ⟨l, hl, hq⟩ := List.mem_flatten.1 hq
    exact List.mem_flatten.2 ⟨l, List.mem_of_mem_drop hl, hq⟩
  have hnk : (bss.drop k).flatten.Nodup := by
    have h1 := (List.nodup_cons.1 hn).2
    rw [← List.take_append_drop k bss, List.flatten_append] at h1
    exact (List.nodup_append.1 h1).2.1
  rw [hd, List.flatten_cons] at hnk hsub
  have h1 : ∀ q ∈ bss.getD k [], q ∈ b :: bss.flatten := fun q hq => List.mem_cons_of_mem _ (hsub q (List.mem_append_left _ hq))
  refine ⟨h.kept.trans (hk.mono h1), fun q hq => ?_⟩
  have hq2 : q ∈ b :: (bss.drop k).flatten := by
    rw [hd, List.flatten_cons]
    rcases List.mem_cons.1 hq with rfl | hq
    · exact List.mem_cons_self ..
    · exact List.mem_cons_of_mem _ (List.mem_append_right _ hq)
  have hq3 : q ∈ b :: bss.flatten := by
    rcases List.mem_cons.1 hq with rfl | hq
    · exact List.mem_cons_self ..
    · exact List.mem_cons_of_mem _ (hsub q (List.mem_append_right _ hq))
  have hno : q ∉ bss.getD k [] := fun hin => by
    rcases List.mem_cons.1 hq with rfl | hq
    · exact (List.nodup_cons.1 hn).1 (hsub _ (List.mem_append_left _ hin))
    · exact (List.nodup_append.1 hnk).2.2 q hin q hq rfl
  rw [hk.block q (Nat.lt_of_lt_of_le (hlt q hq3) h.kept.size) hno]
  exact h.same q hq2

theorem gok10 {w W : World} {O O' : List Nat} (h : GOk w O) (hk : Kept O w W) (hs : ∀ q ∈ O', q ∈ O) : GOk W O' where
  inv := h.inv.keep fun q hq hs' => hk.block q hs' fun hin => by have := h.out q hin; omega
  size := Nat.le_trans h.size hk.size
  out := fun q hq => h.out q (hs q hq)

set_option maxHeartbeats 4000000 in
theorem walk10 (w : World) (ad0 : Option Addr) (cap b : Nat) (xs : List (List ByteArray)) (bss : List (List Nat)) (k0 : Int) (hgo : GOk w (b :: bss.flatten)) (hm : xs.length ≤ maxLen) (hcap : xs.length ≤ cap)
    (hk0 : 0 ≤ k0) (hk1 : k0 + tot10 xs ≤ 9223372036854775807) (hl : bss.length = xs.length) (hn : (b :: bss.flatten).Nodup) (hlt : ∀ q ∈ b :: bss.flatten, q < w.heap.size)
    (hv : ∀ k, k < xs.length → ∃ off, ad0 = some ⟨b, off, none⟩ ∧ ∃ ad l c, w.cell? ⟨b, off + k, none⟩ = some (.slice ad l c) ∧ OwnSl w (OwnC w .str) 1 (xs.getD k []) (.slice ad l c) (bss.getD k [])) :
    Calls Tryd.prog 10 #[.slice ad0 xs.length cap, .int .i64 k0] w fun e w' => e = .returned (.int .i64 (k0 + (tot10 xs : Nat))) ∧ Kept (b :: bss.flatten) w w' := by
  have mixed := mixed
  have HV : Aside (∀ k, k < xs.length → ∃ off, ad0 = some ⟨b, off, none⟩ ∧ ∃ ad l c, w.cell? ⟨b, off + k, none⟩ = some (.slice ad l c) ∧ OwnSl w (OwnC w .str) 1 (xs.getD k []) (.slice ad l c) (bss.getD k [])) := hv
  have HL : Aside (∀ q ∈ b :: bss.flatten, q < w.heap.size) := hlt
  have HN : Aside (b :: bss.flatten).Nodup := hn
  have HGO : Aside (GOk w (b :: bss.flatten)) := hgo
  have hlm : xs.length ≤ 9223372036854775807 := hm
  clear hv hlt hn hgo
  go_enter Tryd.func10, Tryd.ntmps10
  go_wp2
  go_loopw [5, 1] (fun i s wr => ∃ k : Nat, k ≤ xs.length ∧ i = .int .i64 (k : Nat) ∧ s = .int .i64 (k0 + (tot10 (xs.take k) : Nat)) ∧ In10 w wr b bss k) (fun i _ _ => xs.length - (intOf i).toNat)
  case atStart => exact ⟨0, Nat.zero_le _, rfl, by simp [tot10], Kept.refl _ _, fun q hq => rfl⟩
  case round =>
    obtain ⟨k, hk, rfl, rfl, hin⟩ := hrel
    have HIN : Aside (In10 w wr b bss k) := hin
    clear hin
    by_cases hlt : k < xs.length
    · obtain ⟨off, rfl, ad, l, c, q1, q2⟩ := HV.out k hlt
      have htk := tot10_take xs k hlt
      have htl := tot10_le xs (k + 1)
      have hd : bss.drop k = bss.getD k [] :: bss.drop (k + 1) := drop_get bss k [] (by omega)
      have hsb : ∀ q ∈ bss.getD k [], wr.heap[q]? = w.heap[q]? := fun q hq => HIN.out.same q (List.mem_cons_of_mem _ (by rw [hd, List.flatten_cons]; exact List.mem_append_left _ hq))
      have hmem : ∀ q ∈ bss.getD k [], q ∈ b :: bss.flatten := fun q hq => List.mem_cons_of_mem _ (List.mem_flatten.2 ⟨_, mem_getD bss k [] (by omega), hq⟩)
      have hb : wr.heap[b]? = w.heap[b]? := HIN.out.same b (List.mem_cons_self ..)
      have p1 : wr.cell? ⟨b, off + k, none⟩ = some (.slice ad l c) := (World.cell?_of_block hb).trans q1
      have Q2 : Aside (OwnSl wr (OwnC wr .str) 1 (xs.getD k []) (.slice ad l c) (bss.getD k [])) := q2.keep (fun x cs bi hs hx => OwnC.keep (fun q hq => hsb q (hs q hq)) hx) hsb
      have HG : Aside (GOk wr (bss.getD k [])) := gok10 HGO.out HIN.out.kept hmem
      have HNk : Aside (bss.getD k []).Nodup := by
        have h1 := (List.nodup_cons.1 HN.out).2
        exact h1.sublist (List.sublist_flatten_of_mem (mem_getD bss k [] (by omega)))
      have HS : Aside (∀ w2, Kept (bss.getD k []) wr w2 → In10 w w2 b bss (k + 1)) := fun w2 h => HIN.out.step (by omega) HN.out HL.out h
      have hbr : b < wr.heap.size := Nat.lt_of_lt_of_le (HL.out b (List.mem_cons_self ..)) HIN.out.kept.size
      have HT : Aside (tot10 (xs.take (k + 1)) = tot10 (xs.take k) + (xs.getD k []).length) := htk
      have ht2 : tot10 (xs.take k) + (xs.getD k []).length ≤ tot10 xs := by omega
      clear q1 q2 hd hsb hmem hb htk htl
      generalize xs.getD k [] = X at *
      generalize bss.getD k [] = B at *
      generalize tot10 (xs.take k) = T at *
      have hPk : P11 X (k0 + (T : Nat)) := ⟨by omega, by omega⟩
      have HPk : Aside (P11 X (k0 + (T : Nat))) := hPk
      clear hPk
      have hir : InR .i64 (k0 + (T : Nat)) := by rw [i64_iff]; omega
      go_wp2_with (go_at_call 11; refine (mk10 wr X _ B _ HG.out HPk.out hir HNk.out Q2.out).mono ?_; rintro e w2 ⟨rfl, k2⟩; have HI2 : Aside (In10 w w2 b bss (k + 1)) := HS.out w2 k2)
      refine ⟨⟨k + 1, by omega, by simp, ?_, HI2.out⟩, by simp [intOf]; omega⟩
      rw [HT.out]
      simp
      omega
    · have hkn : k = xs.length := by omega
      subst hkn
      go_wp2
      go_ret
      refine ⟨?_, HIN.out.kept⟩
      rw [List.take_length]
      rfl

set_option maxHeartbeats 4000000 in
theorem walk010 (w : World) (ad0 : Option Addr) (k0 : Int) :
    Calls Tryd.prog 10 #[.slice ad0 0 0, .int .i64 k0] w fun e w' => e = .returned (.int .i64 (k0 + (tot10 [] : Nat))) ∧ Kept [] w w' := by
  have mixed := mixed
  rw [show k0 + (tot10 [] : Nat) = k0 by simp [tot10]]
  go_enter Tryd.func10, Tryd.ntmps10
  go_wp2
  go_loopw [5, 1] (fun i s wr => i = .int .i64 0 ∧ s = .int .i64 k0 ∧ Kept [] w wr) (fun i _ _ => 0)
  case atStart => exact ⟨rfl, rfl, Kept.refl _ _⟩
  case round =>
    obtain ⟨rfl, rfl, hin⟩ := hrel
    go_wp2
    go_ret
    exact ⟨rfl, hin⟩

def sig10 : List AT := [AT.own (Ty.sl Ty.str), AT.v (Ty.int .i64)]
def g10_0 (x0 : List (List ByteArray)) (x1 : Int) : Int := x1 + (tot10 x0 : Nat)
def P10 (x0 : List (List ByteArray)) (x1 : Int) : Prop := 0 ≤ x1 ∧ x1 + (tot10 x0 : Nat) ≤ 9223372036854775807
def S10 : Am.Spec := { sig := sig10, pre := fun ⟨x0, x1, _⟩ => P10 x0 x1, upd := fun _ => [none], res := fun ⟨x0, x1, _⟩ => [⟨Ty.int .i64, g10_0 x0 x1⟩] }

theorem rng10 (x1 : Int) (n : Nat) (h1 : 0 ≤ x1) (h2 : x1 + (n : Nat) ≤ 9223372036854775807) : InR .i64 (x1 + (n : Nat)) := by rw [i64_iff]; omega

theorem con10 : Contract Tryd.prog 10 S10 := by
  intro w G G0 ⟨x0, x1, u⟩ vs bss hgo hG hG0 hp ha hnd
  obtain ⟨v, s, b, bs, rfl, rfl, ho, v1, s1, b1, bs1, rfl, rfl, ⟨rfl, h1⟩, rfl, rfl⟩ := ha
  obtain ⟨p1, p2⟩ : 0 ≤ x1 ∧ x1 + (tot10 x0 : Nat) ≤ 9223372036854775807 := hp
  obtain ⟨v', hv', ho⟩ : OwnC w (.sl (.sl .str)) x0 [v] b := ho
  cases hv'
  obtain ⟨rfl, hi1⟩ : v1 = .int .i64 x1 ∧ InR .i64 x1 := h1
  have e1 : ([b, []] : List (List Nat)).flatten = b := by simp
  have e2 : (([b, []] : List (List Nat))).flatten = b := e1
  rw [e1] at hgo hnd
  have fin : ∀ e w', (e = Ending.returned (.int .i64 (x1 + (tot10 x0 : Nat))) ∧ Kept b w w') → PostC w ([b, []] : List (List Nat)).flatten G G0 [] [⟨Ty.int .i64, g10_0 x0 x1⟩] (owns sig10) [none] (ownVals sig10 [v, .int .i64 x1]) e w' := by
    rintro e w' ⟨rfl, hk⟩
    refine ⟨[.int .i64 (x1 + (tot10 x0 : Nat))], [[]], [[]], fun _ => False, rfl, by rw [e1]; exact hk, ⟨_, _, _, _, rfl, rfl, ⟨_, ⟨rfl, ?_, rfl⟩, rfl⟩, rfl, rfl⟩, ⟨_, _, _, rfl, rfl, rfl, rfl⟩, by simp, fun b hb => by simp at hb, fun b hb => hb.elim⟩
    exact rng10 _ _ p1 p2
  rcases ho.2 with ⟨ad, rfl, rfl, rfl⟩ | ⟨b0, off, cap, cur, ty, fz, bss, rfl, h3, h4, h5, h6, h7, h8, rfl, h9⟩
  · refine (walk010 w ad x1).mono fin
  · have hlt := OwnC.lt (t := .sl (.sl .str)) ⟨_, rfl, ho⟩
    refine (walk10 w _ cap b0 x0 bss x1 hgo ho.1 h3 p1 p2 h8 hnd hlt (fun k hk => ⟨off, rfl, ?_⟩)).mono fin
    have hg : x0[k]? = some (x0.getD k []) := by rw [List.getD_eq_getElem?_getD, List.getElem?_eq_getElem hk]; rfl
    have hb : bss[k]? = some (bss.getD k []) := by rw [List.getD_eq_getElem?_getD, List.getElem?_eq_getElem (by omega)]; rfl
    obtain ⟨cs, c1, c2, v', rfl, hs⟩ := h9 k _ _ hg hb
    have c0 : cur[off + k * 1 + 0]? = some v' := c2 0 v' rfl
    have c3 : w.cell? ⟨b0, off + k, none⟩ = some v' := by
      rw [show off + k * 1 + 0 = off + k by omega] at c0
      simpa [World.cell?, h6] using c0
    rcases hs.2 with ⟨ad, rfl, _⟩ | ⟨b', off', cap', _, _, _, _, rfl, _⟩
    · exact ⟨_, _, _, c3, hs⟩
    · exact ⟨_, _, _, c3, hs⟩
end Go.Proofs.YtkokplahkiaoaaaDoor

/- Function 12 (laws.heldStringS): its runs between cut points. Written by a program of this repo (gen). -/
set_option linter.unusedVariables false
set_option linter.unusedSimpArgs false
set_option maxRecDepth 100000
namespace Go.Proofs.YtkokplahkiaoaaaDoor
open Go Go.Am Go.Proofs
noncomputable section
def ext12 : Ext := [(25, S25)]
theorem call12_25 : Callable Tryd.prog 25 := ⟨Tryd.f25, Tryd.func25, by kernel_rfl, by kernel_rfl⟩
theorem ext12Ok : ExtOk Tryd.prog ext12 := ⟨⟨call12_25, con25⟩, trivial⟩

noncomputable def b12 : Code := bodyOf Tryd.f12
theorem hb12 : Tryd.f12.body = some b12 := by kernel_rfl
def sig12 : List AT := [AT.v (Ty.sl Ty.str), AT.v (Ty.int IntKind.i64)]
def tys12 : List Ty := [Ty.int IntKind.i64]
def kds12 : List RK := []
def oks12 : List AT := owns sig12
def E12_2 (v5 : Int) (x0 : List ByteArray) (x1 : Int) : Env := [(0, PV.a (Atom.sl Ty.str x0)), (1, PV.a (Atom.val (Value.int IntKind.i64 x1))), (5, PV.a (Atom.val (Value.int IntKind.i64 v5)))]
def L12_2 (v5 : Int) (x0 : List ByteArray) (x1 : Int) : Heap := []
mutual
def R12 : Nat → List ByteArray → Int → List Dyn → Prop
  | 0, _, _, _ => False
  | n + 1, x0, x1, ds => (R12_2 n (0) (x0) (x1) ds)
def R12_2 : Nat → Int → List ByteArray → Int → List Dyn → Prop
  | 0, _, _, _, _ => False
  | n + 1, v5, x0, x1, ds => (if (Decidable.decide (v5 < (↑(List.length x0) : Int))) = true then ((0 ≤ v5) ∧ (v5 < (↑(List.length x0) : Int)) ∧ (if (!ByteArray.toList (List.getD x0 (Int.toNat v5) ByteArray.empty) == ByteArray.toList (g25_0 x1)) = true then (ds = [Dyn.mk (Ty.int IntKind.i64) (-1)]) else ((InR IntKind.i64 (x1 + 1)) ∧ ((InR IntKind.i64 (v5 + 1)) ∧ (R12_2 n (v5 + 1) (x0) (x1 + 1) ds))))) else (ds = [Dyn.mk (Ty.int IntKind.i64) x1]))
end
theorem snd12 : ∀ n, (∀ (x0 : List ByteArray) (x1 : Int) ds, R12 n x0 x1 ds → ∀ K q, AtV Tryd.prog 12 (PostR kds12 oks12 ds [] [] q K) 22 K q [] [.code b12] (entE 0 0 sig12 (x0, x1, ())) (entL sig12 (x0, x1, ()))) ∧ (∀ (v5 : Int) (x0 : List ByteArray) (x1 : Int) ds, R12_2 n v5 x0 x1 ds → ∀ K q, AtV Tryd.prog 12 (PostR kds12 oks12 ds [] [] q K) 22 K q [] (cutAt b12 2) (E12_2 v5 x0 x1) (L12_2 v5 x0 x1)) := by
  intro n
  induction n with
  | zero => exact ⟨fun _ _ _ h => by simp only [R12] at h, fun _ _ _ _ h => by simp only [R12_2] at h⟩
  | succ n ih =>
  obtain ⟨ih, ih2⟩ := ih
  refine ⟨?_, ?_⟩
  · intro x0 x1 ds h K q
    rw [R12] at h
    exact AtV.go tabOk ext12Ok mixed false [] [] [0, 1, 5] [] [] trivial (ih2 _ _ _ _ h K q) (by kernel_rfl)

  · intro v5 x0 x1 ds h K q
    rw [R12_2] at h
    by_cases b0 : (Decidable.decide (v5 < (↑(List.length x0) : Int))) = true
    · rw [if_pos b0] at h
      obtain ⟨s0, s1, h⟩ := h
      by_cases b1 : (!ByteArray.toList (List.getD x0 (Int.toNat v5) ByteArray.empty) == ByteArray.toList (g25_0 x1)) = true
      · rw [if_pos b1] at h
        subst h
        exact AtV.ret Tryd.func12 tabOk ext12Ok mixed false [] tys12 [true, true] (a1 b0 (a1 s0 (a1 s1 (a1 trivial (a1 b1 trivial))))) (by kernel_rfl)
      · rw [if_neg b1] at h
        replace b1 := Bool.eq_false_iff.2 b1
        obtain ⟨s2, h⟩ := h
        obtain ⟨s3, h⟩ := h
        exact AtV.go tabOk ext12Ok mixed false [] [] [0, 1, 5] [] [true, false] (a1 b0 (a1 s0 (a1 s1 (a1 trivial (a1 b1 (a1 s2 (a1 s3 trivial))))))) (ih2 _ _ _ _ h K q) (by kernel_rfl)
    · rw [if_neg b0] at h
      replace b0 := Bool.eq_false_iff.2 b0
      subst h
      exact AtV.ret Tryd.func12 tabOk ext12Ok mixed false [] tys12 [false] (a1 b0 trivial) (by kernel_rfl)



theorem run12 (x0 : List ByteArray) (x1 : Int) (hm : x0.length ≤ maxLen) (h0 : 0 ≤ x1) (h1 : x1 + x0.length ≤ 9223372036854775807) (he : ∀ i : Nat, i < x0.length → x0.getD i ByteArray.empty = g25_0 (x1 + (i : Int))) : ∀ (k i : Nat), i + k = x0.length →
    R12_2 (k + 1) (i : Int) x0 (x1 + (i : Int)) [⟨.int .i64, x1 + (x0.length : Int)⟩] := by
  intro k
  induction k with
  | zero =>
    intro i hi
    rw [R12_2, if_neg (by simp; omega)]
    have : i = x0.length := by omega
    subst this
    rfl
  | succ k ih =>
    intro i hi
    rw [R12_2, if_pos (by simp; omega)]
    simp only [Int.toNat_natCast]
    have hb := (bytes_eq _ _).2 (he i (by omega))
    refine ⟨by omega, by omega, ?_⟩
    rw [if_neg (by rw [hb]; simp)]
    refine ⟨by rw [i64_iff]; omega, inR_up hm (by omega), ?_⟩
    rw [Int.add_assoc]
    exact ih (i + 1) (by omega)

def P12 (x0 : List ByteArray) (x1 : Int) : Prop := (0 ≤ x1 ∧ x1 + x0.length ≤ 9223372036854775807) ∧ ∀ i : Nat, i < x0.length → x0.getD i ByteArray.empty = g25_0 (x1 + (i : Int))
def g12_0 (x0 : List ByteArray) (x1 : Int) : Int := x1 + (x0.length : Int)

theorem top12 (x0 : List ByteArray) (x1 : Int) (hm : x0.length ≤ maxLen) (h : P12 x0 x1) : R12 (x0.length + 1 + 1) x0 x1 [⟨.int .i64, g12_0 x0 x1⟩] := by
  rw [R12]
  have := run12 x0 x1 hm h.1.1 h.1.2 h.2 x0.length 0 (by omega)
  simpa [g12_0] using this

def S12 : Am.Spec := { sig := sig12, pre := fun ⟨x0, x1, _⟩ => P12 x0 x1, res := fun ⟨x0, x1, _⟩ => [⟨.int .i64, g12_0 x0 x1⟩] }
theorem con12 : Contract Tryd.prog 12 S12 := contract_of Tryd.func12 hb12 (Nat.le_of_ble_eq_true (by kernel_rfl)) (fun ⟨x0, x1, _⟩ h hwf K q =>
  (snd12 _).1 x0 x1 _ (top12 x0 x1 hwf.1.1 h) K q)

end
end Go.Proofs.YtkokplahkiaoaaaDoor

/- Function 3 (laws.FnExactTableLines): its runs between cut points. Written by a program of this repo (gen). -/
set_option linter.unusedVariables false
set_option linter.unusedSimpArgs false
set_option maxRecDepth 100000
namespace Go.Proofs.YtkokplahkiaoaaaDoor
open Go Go.Am Go.Proofs
noncomputable section
def ext3 : Ext := [(4, S4), (6, S6), (5, S5), (7, S7), (8, S8), (9, S9), (10, S10), (11, S11), (12, S12)]
theorem call3_4 : Callable Tryd.prog 4 := ⟨Tryd.f4, Tryd.func4, by kernel_rfl, by kernel_rfl⟩
theorem call3_6 : Callable Tryd.prog 6 := ⟨Tryd.f6, Tryd.func6, by kernel_rfl, by kernel_rfl⟩
theorem call3_5 : Callable Tryd.prog 5 := ⟨Tryd.f5, Tryd.func5, by kernel_rfl, by kernel_rfl⟩
theorem call3_7 : Callable Tryd.prog 7 := ⟨Tryd.f7, Tryd.func7, by kernel_rfl, by kernel_rfl⟩
theorem call3_8 : Callable Tryd.prog 8 := ⟨Tryd.f8, Tryd.func8, by kernel_rfl, by kernel_rfl⟩
theorem call3_9 : Callable Tryd.prog 9 := ⟨Tryd.f9, Tryd.func9, by kernel_rfl, by kernel_rfl⟩
theorem call3_10 : Callable Tryd.prog 10 := ⟨Tryd.f10, Tryd.func10, by kernel_rfl, by kernel_rfl⟩
theorem call3_11 : Callable Tryd.prog 11 := ⟨Tryd.f11, Tryd.func11, by kernel_rfl, by kernel_rfl⟩
theorem call3_12 : Callable Tryd.prog 12 := ⟨Tryd.f12, Tryd.func12, by kernel_rfl, by kernel_rfl⟩
theorem ext3Ok : ExtOk Tryd.prog ext3 := ⟨⟨call3_4, con4⟩, ⟨call3_6, con6⟩, ⟨call3_5, con5⟩, ⟨call3_7, con7⟩, ⟨call3_8, con8⟩, ⟨call3_9, con9⟩, ⟨call3_10, con10⟩, ⟨call3_11, con11⟩, ⟨call3_12, con12⟩, trivial⟩

noncomputable def b3 : Code := bodyOf Tryd.f3
theorem hb3 : Tryd.f3.body = some b3 := by kernel_rfl
def sig3 : List AT := [AT.v (Ty.sl (Ty.sl Ty.str))]
def tys3 : List Ty := [Ty.bool]
def kds3 : List RK := []
def oks3 : List AT := owns sig3
def P3 (x0 : List (List ByteArray)) : Prop := ((P4 x0 1048576) ∧ (if (Decidable.decide (g4_0 x0 1048576 < 0)) = true then True else ((P6 x0) ∧ ((P5 (g6_0 x0)) ∧ ((P6 x0) ∧ ((P7 (g6_0 x0)) ∧ (if (!g8_0 (g7_0 (g6_0 x0)) (g5_0 (g6_0 x0))) = true then True else (if (g7_1 (g6_0 x0) != g5_1 (g6_0 x0)) = true then True else ((P6 x0) ∧ (if (!g9_0 (g6_0 x0) (g6_0 x0)) = true then True else ((P10 (g6_0 x0) 1) ∧ (if (Decidable.decide (g10_0 (g6_0 x0) 1 < 0)) = true then True else ((P11 (g7_0 (g6_0 x0)) 1) ∧ (List.length (u11_0 (g7_0 (g6_0 x0)) 1) = List.length (g7_0 (g6_0 x0))) ∧ ((P12 (u11_0 (g7_0 (g6_0 x0)) 1) 1) ∧ (if (Decidable.decide (g12_0 (u11_0 (g7_0 (g6_0 x0)) 1) 1 < 0)) = true then True else (if (g12_0 (u11_0 (g7_0 (g6_0 x0)) 1) 1 != g11_0 (g7_0 (g6_0 x0)) 1) = true then True else ((P6 x0) ∧ ((P7 (g6_0 x0)) ∧ ((P12 (u11_0 (g7_0 (g6_0 x0)) 1) 1) ∧ True)))))))))))))))))))
def g3_0 (x0 : List (List ByteArray)) : Bool := (if (Decidable.decide (g4_0 x0 1048576 < 0)) = true then Bool.true else (if (!g8_0 (g7_0 (g6_0 x0)) (g5_0 (g6_0 x0))) = true then Bool.false else (if (g7_1 (g6_0 x0) != g5_1 (g6_0 x0)) = true then Bool.false else (if (!g9_0 (g6_0 x0) (g6_0 x0)) = true then Bool.false else (if (Decidable.decide (g10_0 (g6_0 x0) 1 < 0)) = true then Bool.false else (if (Decidable.decide (g12_0 (u11_0 (g7_0 (g6_0 x0)) 1) 1 < 0)) = true then Bool.false else (if (g12_0 (u11_0 (g7_0 (g6_0 x0)) 1) 1 != g11_0 (g7_0 (g6_0 x0)) 1) = true then Bool.false else Bool.true)))))))
theorem at3 (x0 : List (List ByteArray)) (h : P3 x0) (K : Ctx) (q : Nat → Value) : AtV Tryd.prog 3 (PostR kds3 oks3 [⟨Ty.bool, g3_0 x0⟩] [] [] q K) 96 K q [] [.code b3] (entE 0 0 sig3 (x0, ())) (entL sig3 (x0, ())) := by
  unfold P3 at h
  unfold g3_0
  obtain ⟨s0, h⟩ := h
  by_cases b0 : (Decidable.decide (g4_0 x0 1048576 < 0)) = true
  · try simp only [if_pos b0] at h ⊢
    exact AtV.ret Tryd.func3 tabOk ext3Ok mixed false [] tys3 [true] (a1 s0 (a1 b0 trivial)) (by kernel_rfl)
  · try simp only [if_neg b0] at h ⊢
    replace b0 := Bool.eq_false_iff.2 b0
    obtain ⟨s1, h⟩ := h
    obtain ⟨s2, h⟩ := h
    obtain ⟨s3, h⟩ := h
    obtain ⟨s4, h⟩ := h
    by_cases b1 : (!g8_0 (g7_0 (g6_0 x0)) (g5_0 (g6_0 x0))) = true
    · try simp only [if_pos b1] at h ⊢
      exact AtV.ret Tryd.func3 tabOk ext3Ok mixed false [] tys3 [false, true, true] (a1 s0 (a1 b0 (a1 s1 (a1 s2 (a1 s3 (a1 s4 (a1 trivial (a1 b1 (a1 (rfl : Bool.true = Bool.true) trivial))))))))) (by kernel_rfl)
    · try simp only [if_neg b1] at h ⊢
      replace b1 := Bool.eq_false_iff.2 b1
      by_cases b2 : (g7_1 (g6_0 x0) != g5_1 (g6_0 x0)) = true
      · try simp only [if_pos b2] at h ⊢
        exact AtV.ret Tryd.func3 tabOk ext3Ok mixed false [] tys3 [false, false, true] (a1 s0 (a1 b0 (a1 s1 (a1 s2 (a1 s3 (a1 s4 (a1 trivial (a1 b1 (a1 b2 trivial))))))))) (by kernel_rfl)
      · try simp only [if_neg b2] at h ⊢
        replace b2 := Bool.eq_false_iff.2 b2
        obtain ⟨s5, h⟩ := h
        by_cases b3 : (!g9_0 (g6_0 x0) (g6_0 x0)) = true
        · try simp only [if_pos b3] at h ⊢
          exact AtV.ret Tryd.func3 tabOk ext3Ok mixed false [] tys3 [false, false, false, true] (a1 s0 (a1 b0 (a1 s1 (a1 s2 (a1 s3 (a1 s4 (a1 trivial (a1 b1 (a1 b2 (a1 s5 (a1 trivial (a1 b3 trivial)))))))))))) (by kernel_rfl)
        · try simp only [if_neg b3] at h ⊢
          replace b3 := Bool.eq_false_iff.2 b3
          obtain ⟨s6, h⟩ := h
          by_cases b4 : (Decidable.decide (g10_0 (g6_0 x0) 1 < 0)) = true
          · try simp only [if_pos b4] at h ⊢
            exact AtV.ret Tryd.func3 tabOk ext3Ok mixed false [] tys3 [false, false, false, false, true, true, true] (a1 s0 (a1 b0 (a1 s1 (a1 s2 (a1 s3 (a1 s4 (a1 trivial (a1 b1 (a1 b2 (a1 s5 (a1 trivial (a1 b3 (a1 s6 (a1 b4 (a1 (rfl : Bool.true = Bool.true) (a1 (rfl : Bool.true = Bool.true) trivial)))))))))))))))) (by kernel_rfl)
          · try simp only [if_neg b4] at h ⊢
            replace b4 := Bool.eq_false_iff.2 b4
            obtain ⟨s7, s8, h⟩ := h
            obtain ⟨s9, h⟩ := h
            by_cases b5 : (Decidable.decide (g12_0 (u11_0 (g7_0 (g6_0 x0)) 1) 1 < 0)) = true
            · try simp only [if_pos b5] at h ⊢
              exact AtV.ret Tryd.func3 tabOk ext3Ok mixed false [] tys3 [false, false, false, false, false, false, false, true] (a1 s0 (a1 b0 (a1 s1 (a1 s2 (a1 s3 (a1 s4 (a1 trivial (a1 b1 (a1 b2 (a1 s5 (a1 trivial (a1 b3 (a1 s6 (a1 b4 (a1 trivial (a1 b1 (a1 b2 (a1 s7 (a1 s8 (a1 s9 (a1 b5 trivial))))))))))))))))))))) (by kernel_rfl)
            · try simp only [if_neg b5] at h ⊢
              replace b5 := Bool.eq_false_iff.2 b5
              by_cases b6 : (g12_0 (u11_0 (g7_0 (g6_0 x0)) 1) 1 != g11_0 (g7_0 (g6_0 x0)) 1) = true
              · try simp only [if_pos b6] at h ⊢
                exact AtV.ret Tryd.func3 tabOk ext3Ok mixed false [] tys3 [false, false, false, false, false, false, false, false, true] (a1 s0 (a1 b0 (a1 s1 (a1 s2 (a1 s3 (a1 s4 (a1 trivial (a1 b1 (a1 b2 (a1 s5 (a1 trivial (a1 b3 (a1 s6 (a1 b4 (a1 trivial (a1 b1 (a1 b2 (a1 s7 (a1 s8 (a1 s9 (a1 b5 (a1 b6 trivial)))))))))))))))))))))) (by kernel_rfl)
              · try simp only [if_neg b6] at h ⊢
                replace b6 := Bool.eq_false_iff.2 b6
                obtain ⟨s10, h⟩ := h
                obtain ⟨s11, h⟩ := h
                obtain ⟨s12, h⟩ := h
                exact AtV.ret Tryd.func3 tabOk ext3Ok mixed false [] tys3 [false, false, false, false, false, false, false, false, false, false, false, false, false] (a1 s0 (a1 b0 (a1 s1 (a1 s2 (a1 s3 (a1 s4 (a1 trivial (a1 b1 (a1 b2 (a1 s5 (a1 trivial (a1 b3 (a1 s6 (a1 b4 (a1 trivial (a1 b1 (a1 b2 (a1 s7 (a1 s8 (a1 s9 (a1 b5 (a1 b6 (a1 s10 (a1 s11 (a1 trivial (a1 b1 (a1 b2 (a1 s12 (a1 b5 (a1 b6 trivial)))))))))))))))))))))))))))))) (by kernel_rfl)

def S3 : Am.Spec := { sig := sig3, pre := fun ⟨x0, _⟩ => P3 x0, res := fun ⟨x0, _⟩ => [⟨Ty.bool, g3_0 x0⟩], kds := kds3 }
theorem con3 : Contract Tryd.prog 3 S3 := contract_of Tryd.func3 hb3 (Nat.le_of_ble_eq_true (by kernel_rfl)) (fun ⟨x0, _⟩ h _ K q => at3 x0 h K q)


end
end Go.Proofs.YtkokplahkiaoaaaDoor

/- A law that says how functions of the program and of the specification hang together. -/
set_option linter.unusedVariables false
set_option linter.unusedSimpArgs false
set_option maxRecDepth 100000
namespace Go.Proofs.YtkokplahkiaoaaaDoor
open Go Go.Am Go.Proofs

theorem reportLine (s : ByteArray) : g55_0 s = g43_0 s := by
  unfold g55_0 g30c61_0 g43_0
  rw [any45c61]
  have hq : (!(bytesOf s).any g61_0) = (bytesOf s).all ok43 := by
    rw [List.not_any_eq_all_not]
    congr 1
    funext b
    simp only [g61_0, ok43]
    by_cases h1 : b < 32 <;> by_cases h2 : b > 126 <;> simp [h1, h2] <;> omega
  rw [hq]
  by_cases h : ((s.size : Nat) : Int) ≤ 100
  · have h' : s.size ≤ 100 := by omega
    simp [h, h']
  · have h' : ¬ s.size ≤ 100 := by omega
    simp [h, h']

theorem report (x : List ByteArray) : g42_0 x = g26_0 x := by
  unfold g42_0 g26_0 g28c54_0
  rw [any44c54]
  have hq : (!x.any g54_0) = x.all g43_0 := by
    rw [List.not_any_eq_all_not]
    congr 1
    funext b
    simp only [g54_0, reportLine, Bool.not_not]
  rw [hq]
  by_cases h : ((x.length : Nat) : Int) ≤ 200
  · have h' : x.length ≤ 200 := by omega
    simp [h, h']
  · have h' : ¬ x.length ≤ 200 := by omega
    simp [h, h']

end Go.Proofs.YtkokplahkiaoaaaDoor

/- A law that says how functions of the program and of the specification hang together. -/
set_option linter.unusedVariables false
set_option linter.unusedSimpArgs false
set_option maxRecDepth 100000
namespace Go.Proofs.YtkokplahkiaoaaaDoor
open Go Go.Am Go.Proofs

theorem set_same : ∀ (h : List Int) (k : Nat), h.set k (h.getD k 0) = h
  | [], _ => rfl
  | a :: l, 0 => rfl
  | a :: l, k + 1 => by
    show a :: l.set k (l.getD k 0) = a :: l
    rw [set_same l k]

theorem row_eq : ∀ (r : List ByteArray) (k : Nat) (h : List Int), row7 k r h = row16 k r h
  | [], _, _ => rfl
  | c :: r, k, h => by
    have e : up7 h k c = if ((c.size : Nat) : Int) > h.getD k 0 then h.set k (c.size : Nat) else h := by
      unfold up7
      by_cases h1 : h.getD k 0 < ((c.size : Nat) : Int)
      · rw [if_pos h1, if_pos h1]
      · rw [if_neg h1, if_neg h1, set_same]
    show row7 (k + 1) r (up7 h k c) = row16 (k + 1) r _
    rw [e, row_eq]

theorem wide_eq (x : List (List ByteArray)) : wide7 x = wide16 x := by
  unfold wide7 wide16
  congr 1
  funext h r
  exact row_eq r 0 h

theorem wd_bytes (h : List Int) (k : Nat) (c : ByteArray) : (wd7 h k c).data.toList = c.data.toList ++ spc16 (h.getD k 0 - (c.size : Nat)).toNat := by
  have e : (ByteArray.mk #[32]).data.toList = List.replicate 1 32 := rfl
  unfold wd7 g21_0 spc16
  rw [e, Lib.repeatL_replicate, Nat.mul_one]
  simp [ByteArray.data_append]

theorem ln_tail : ∀ (r : List ByteArray) (k : Nat) (h : List Int) (v : List UInt8), 0 < k → ln16 k r h v = v ++ Lib.joinTail [32, 32] ((words7 h k r).map fun x => x.data.toList)
  | [], k, h, v, _ => by simp [ln16, words7, Lib.joinTail]
  | c :: r, k, h, v, hk => by
    simp only [ln16, words7]
    rw [ln_tail r (k + 1) h _ (by omega), if_pos hk, List.map_cons, wd_bytes]
    simp [Lib.joinTail]

theorem line_eq (h : List Int) (r : List ByteArray) : line7 h r = line16 h r := by
  unfold line7 line16 fin7 g22_0 g23_0
  have e1 : (ByteArray.mk #[32]).data.toList.getD 0 0 = 32 := rfl
  have e2 : (ByteArray.mk #[32, 32]).data.toList = [32, 32] := rfl
  rw [e1, e2]
  congr 3
  show Lib.join _ [32, 32] = _
  cases r with
  | nil => rfl
  | cons c r =>
    simp only [words7, ln16]
    rw [List.map_cons, Lib.join_cons, wd_bytes, ln_tail r 1 h _ (by omega)]
    simp

theorem done_eq (l : List ByteArray) : g24_0 l = g15_0 l ∧ g24_1 l = g15_1 l := by
  unfold g24_0 g24_1 g15_0 g15_1
  rw [report]
  exact ⟨rfl, rfl⟩

def Cell (c : ByteArray) : Prop := ∀ b ∈ bytesOf c, 33 ≤ b ∧ b ≤ 126

theorem cell_ok {c : ByteArray} (h : Cell c) : g29_0 c = false := by
  unfold g29_0 g30c31_0
  rw [any45c31, List.any_eq_false]
  intro b hb
  obtain ⟨h1, h2⟩ := h b hb
  have d1 : ¬ b < 33 := by omega
  have d2 : ¬ b > 126 := by omega
  simp [g31_0, d1, d2]

theorem rows_ok {x : List (List ByteArray)} (h : ∀ r ∈ x, r.length ≤ 12 ∧ ∀ c ∈ r, Cell c) : g18c19_0 x = false := by
  unfold g18c19_0
  rw [any27c19, List.any_eq_false]
  intro r hr
  obtain ⟨h1, h2⟩ := h r hr
  have d1 : ((r.length : Nat) : Int) ≤ 12 := by omega
  have e : g28c29_0 r = false := by
    unfold g28c29_0
    rw [any44c29, List.any_eq_false]
    intro c hc
    rw [cell_ok (h2 c hc)]
    simp
  unfold g19_0 g20_0
  rw [e, if_pos (by simpa using d1)]
  simp

theorem table_eq {x : List (List ByteArray)} (h : ∀ r ∈ x, r.length ≤ 12 ∧ ∀ c ∈ r, Cell c) : g7_0 x = g15_0 (g16_0 x) ∧ g7_1 x = g15_1 (g16_0 x) := by
  have e : x.map (line7 (wide7 x)) = g16_0 x := by
    unfold g16_0
    rw [wide_eq]
    congr 1
    funext r
    exact line_eq _ r
  unfold g7_0 g7_1
  rw [rows_ok h, e]
  simp only [Bool.false_eq_true, if_false]
  exact done_eq _
theorem done_len (l : List ByteArray) : (g15_0 l).length ≤ 200 := by
  unfold g15_0
  cases h : g26_0 l with
  | false => simp
  | true =>
    unfold g26_0 at h
    simp only [Bool.and_eq_true, decide_eq_true_eq] at h
    simpa using h.2

end Go.Proofs.YtkokplahkiaoaaaDoor

/- A law that says how functions of the program and of the specification hang together. -/
set_option linter.unusedVariables false
set_option linter.unusedSimpArgs false
set_option maxRecDepth 100000
namespace Go.Proofs.YtkokplahkiaoaaaDoor
open Go Go.Am Go.Proofs

theorem cell_is (c : ByteArray) : g29_0 c = !(cellOk14 c) := by
  unfold g29_0 g30c31_0 cellOk14
  rw [any45c31, List.not_all_eq_any_not]
  unfold bytesOf
  rw [List.any_map]
  congr 1
  funext b
  show g31_0 ((b.toNat : Nat) : Int) = !(byteOk14 b)
  unfold g31_0 byteOk14
  by_cases h1 : ((b.toNat : Nat) : Int) < 33
  · simp [h1]
  · simp [h1]

theorem row_is (r : List ByteArray) : g19_0 r = !(rowOk14 r) := by
  have e : g28c29_0 r = !(r.all cellOk14) := by
    unfold g28c29_0
    rw [any44c29, List.not_all_eq_any_not]
    congr 1
    funext c
    exact cell_is c
  unfold g19_0 g20_0 rowOk14
  rw [e]
  by_cases h1 : ((r.length : Nat) : Int) ≤ 12
  · have h2 : ¬ ((r.length : Nat) : Int) > 12 := by omega
    rw [if_pos (by simpa using h1), decide_eq_false h2]
    cases r.all cellOk14 <;> rfl
  · have h2 : ((r.length : Nat) : Int) > 12 := by omega
    rw [if_neg (by simpa using h1), decide_eq_true h2]
    rfl

theorem rows_is (x : List (List ByteArray)) : g18c19_0 x = !(g14_0 x) := by
  unfold g18c19_0 g14_0
  rw [any27c19, List.not_all_eq_any_not]
  congr 1
  funext r
  exact row_is r

theorem rows_good {x : List (List ByteArray)} (h : g14_0 x = true) : ∀ r ∈ x, r.length ≤ 12 ∧ ∀ c ∈ r, Cell c := by
  intro r hr
  unfold g14_0 at h
  have h1 := List.all_eq_true.1 h r hr
  unfold rowOk14 at h1
  simp only [Bool.and_eq_true, Bool.not_eq_true', decide_eq_false_iff_not] at h1
  refine ⟨by omega, fun c hc b hb => ?_⟩
  have h2 := List.all_eq_true.1 h1.2 c hc
  unfold cellOk14 at h2
  unfold bytesOf at hb
  obtain ⟨u, hu, rfl⟩ := List.mem_map.1 hb
  have h3 := List.all_eq_true.1 h2 u hu
  unfold byteOk14 at h3
  simp only [Bool.and_eq_true, Bool.not_eq_true', decide_eq_false_iff_not] at h3
  omega

theorem cells_size {x : List (List ByteArray)} : ∀ r ∈ x, r.length ≤ cells4 x ∧ ∀ c ∈ r, c.size ≤ cells4 x := by
  induction x with
  | nil => intro r hr; cases hr
  | cons y l ih =>
    intro r hr
    simp only [cells4]
    rcases List.mem_cons.1 hr with rfl | hr
    · refine ⟨by omega, fun c hc => ?_⟩
      have := size_le_sizes hc
      omega
    · obtain ⟨h1, h2⟩ := ih r hr
      refine ⟨by omega, fun c hc => ?_⟩
      have := h2 c hc
      omega

theorem tot_le : ∀ (x : List (List ByteArray)), tot10 x ≤ cells4 x
  | [] => Nat.le_refl _
  | y :: l => by
    have := tot_le l
    simp only [tot10, cells4]
    omega

theorem table_all (x : List (List ByteArray)) : g7_0 x = g5_0 x ∧ g7_1 x = g5_1 x := by
  unfold g5_0 g5_1
  cases h : g14_0 x with
  | true =>
    rw [if_neg (show ¬ (!true) = true by decide), if_neg (show ¬ (!true) = true by decide)]
    exact table_eq (rows_good h)
  | false =>
    unfold g7_0 g7_1
    rw [rows_is, h]
    exact ⟨rfl, rfl⟩

theorem spec_len (x : List (List ByteArray)) : (g5_0 x).length ≤ 200 := by
  unfold g5_0
  split
  · simp
  · exact done_len _

end Go.Proofs.YtkokplahkiaoaaaDoor

/- A law that says how functions of the program and of the specification hang together. -/
set_option linter.unusedVariables false
set_option linter.unusedSimpArgs false
set_option maxRecDepth 100000
namespace Go.Proofs.YtkokplahkiaoaaaDoor
open Go Go.Am Go.Proofs

theorem marked_strs (xs : List ByteArray) (h : xs.length ≤ 1048576) : P11 xs 1 ∧ (u11_0 xs 1).length = xs.length ∧ ¬ g11_0 xs 1 < 0 := by
  have hl : (u11_0 xs 1).length = xs.length := by rw [u11_0, M11_len]
  refine ⟨⟨by omega, by omega⟩, hl, ?_⟩
  unfold g11_0
  omega

end Go.Proofs.YtkokplahkiaoaaaDoor

/- A law that says how functions of the program and of the specification hang together. -/
set_option linter.unusedVariables false
set_option linter.unusedSimpArgs false
set_option maxRecDepth 100000
namespace Go.Proofs.YtkokplahkiaoaaaDoor
open Go Go.Am Go.Proofs

theorem held_strs (xs : List ByteArray) (h : xs.length ≤ 1048576) : P12 (u11_0 xs 1) 1 ∧ g12_0 (u11_0 xs 1) 1 = g11_0 xs 1 := by
  have hl : (u11_0 xs 1).length = xs.length := by rw [u11_0, M11_len]
  refine ⟨⟨⟨by omega, by rw [hl]; omega⟩, fun i hi => ?_⟩, ?_⟩
  · rw [hl] at hi
    rw [getD_lt _ _ _ (by rw [hl]; exact hi)]
    simp [u11_0, M11]
  · unfold g12_0 g11_0
    rw [hl]

end Go.Proofs.YtkokplahkiaoaaaDoor

/- The plain law of FnExactTableLines. -/
set_option linter.unusedVariables false
set_option linter.unusedSimpArgs false
set_option maxRecDepth 100000
namespace Go.Proofs.YtkokplahkiaoaaaDoor
open Go Go.Am Go.Proofs

theorem law3 (x : List (List ByteArray)) (hw : Wf (.sl (.sl .str)) x) : P3 x ∧ g3_0 x = true := by
  unfold P3 g3_0
  have hz : P4 x 1048576 := (show (0 : Int) ≤ 1048576 from by decide)
  by_cases h : g4_0 x 1048576 < 0
  · simp only [h, hz, decide_true, if_true, and_true]
  · have hs := sz4_sum x 1048576 h
    have hlen : x.length + cells4 x ≤ 1048576 := by omega
    have hp : P6 x := ⟨by omega, fun r hr => by have := (cells_size (x := x) r hr).1; omega⟩
    have hb : g14_0 x = true → x.length ≤ 1100000 ∧ ∀ r ∈ x, r.length ≤ 12 ∧ ∀ c ∈ r, c.size ≤ 4000000 := fun hr =>
      ⟨by omega, fun r hr' => ⟨(rows_good hr r hr').1, fun c hc => by have := (cells_size (x := x) r hr').2 c hc; omega⟩⟩
    have p1 : P7 x := fun hc => hb (by
      rw [rows_is] at hc
      simpa using hc)
    have p2 : P5 x := by
      unfold P5
      cases hr : g14_0 x with
      | true =>
        rw [if_neg (show ¬ (!true) = true by decide)]
        exact ⟨hb hr, trivial⟩
      | false =>
        rw [if_pos (show (!false) = true from rfl)]
        trivial
    obtain ⟨e0, e1⟩ := table_all x
    have hl := spec_len x
    have ht := tot_le x
    have b1 : P10 x 1 := ⟨by decide, by omega⟩
    have b2 : ¬ g10_0 x 1 < 0 := by
      unfold g10_0
      omega
    obtain ⟨c1, c2, c3⟩ := marked_strs (g5_0 x) (by omega)
    obtain ⟨d1, d2⟩ := held_strs (g5_0 x) (by omega)
    simp only [h, decide_false, Bool.false_eq_true, if_false, g6_0, e0, e1, p1, p2, g8_0, g9_0, decide_true, Bool.not_true, bne_self_eq_false, beq_self_eq_true, b1, b2, c1, c2, c3, d1, d2, hp, hz, true_and, and_self]

end Go.Proofs.YtkokplahkiaoaaaDoor

/- The abstract machine, part 50: a law's arguments may be slices of slices. -/
namespace Go.Am
open Go.ChangeShapes Go.WideShapes Go.ChangeAt Go.RowKit
set_option linter.unusedVariables false
set_option linter.unusedSimpArgs false

def readsN (P : Program) : Ty → TypeId → Bool
  | .sl e, T => match P.underlying T with
    | some (.slice E) => Nat.beq (P.cellsOf E) e.size && (!Nat.beq e.size 0 && readsN P e E)
    | _ => false
  | t, T => readsT P t T

section
variable {H : Type} {enc : TypeId × Value → H} {P : Program} {w : World} {base : Nat} {spare : Nat → Bool} {held : Bool} {G : Nat → Prop}

theorem trod_slice_repN {e : Ty} {E T : TypeId} {fuel : Nat} {cs : List Value} {x : DataW H × List MemPlace} (hsp : ∀ b, spare b = true) (hu : P.underlying T = some (.slice E)) (hc : P.cellsOf E = e.size) (hz : e.size ≠ 0)
    (hel' : ∀ fuel cs x, DataW.trod enc P w base spare held fuel E cs = some x → ∃ y, RepC w (Good w []) e y cs)
    (h : DataW.trod enc P w base spare held fuel T cs = some x) : ∃ (v : Value) (ys : List e.den), cs = [v] ∧ SlAt w (Good w []) (RepC w (Good w []) e) e.size ys v := by
  rcases DataW.trod_slice hu h with ⟨h1, _⟩ | ⟨a, len, cap, elems, rest, n, _, h1, _, _, hl, hm, hlen, hel, hrest, _⟩
  · exact ⟨_, [], h1, by simp [maxLen], .inl ⟨_, rfl, rfl⟩⟩
  · subst h1
    by_cases hc0 : cap = 0
    · have hl0 : len = 0 := by omega
      subst hc0 hl0
      exact ⟨_, [], rfl, by simp [maxLen], .inl ⟨_, rfl, rfl⟩⟩
    · obtain ⟨b, off, spot⟩ := a
      have hcell : ∃ c, w.cell? ⟨b, off, spot⟩ = some c := by
        have hone : ∃ cs, w.cells? base ((⟨b, off, spot⟩ : Addr).add (0 * P.cellsOf E)) (P.cellsOf E) = some cs := by
          by_cases hl0 : 0 < len
          · have hx := hel 0 hl0
            rw [List.getElem?_eq_getElem (by omega)] at hx
            simp only [Option.bind_eq_some_iff] at hx
            obtain ⟨cs, g1, _⟩ := hx
            exact ⟨cs, g1⟩
          · have hl1 : len = 0 := by omega
            subst hl1
            obtain ⟨r1, r2⟩ := hrest (hsp _)
            have hx := r2 0 (by omega)
            rw [List.getElem?_eq_getElem (by omega)] at hx
            simp only [Option.bind_eq_some_iff] at hx
            obtain ⟨cs, g1, _⟩ := hx
            rw [Nat.zero_add] at g1
            exact ⟨cs, g1⟩
        obtain ⟨cs, g1⟩ := hone
        obtain ⟨k1, k2⟩ := cells_list g1
        have hlt : 0 < cs.length := by omega
        refine ⟨cs[0], ?_⟩
        have := k2 0 cs[0] (List.getElem?_eq_getElem hlt)
        rw [Nat.zero_mul] at this
        exact this
      obtain ⟨c, hcell⟩ := hcell
      have hs : spot = none := by
        unfold World.cell? at hcell
        split at hcell
        · split at hcell
          · cases hcell
          · rename_i hsp'
            simpa using hsp'
        · cases hcell
      subst hs
      have hb : b < w.heap.size := by
        rcases Nat.lt_or_ge b w.heap.size with hlt | hge
        · exact hlt
        · simp [World.cell?, Array.getElem?_eq_none hge] at hcell
      have each : ∀ i, i < len → ∃ y cs, cs.length = e.size ∧ (∀ j c, cs[j]? = some c → w.cell? ⟨b, off + i * e.size + j, none⟩ = some c) ∧ RepC w (Good w []) e y cs := by
        intro i hi
        have hx := hel i hi
        rw [List.getElem?_eq_getElem (by omega)] at hx
        simp only [Option.bind_eq_some_iff] at hx
        obtain ⟨cs, g1, g2⟩ := hx
        obtain ⟨k1, k2⟩ := cells_list g1
        obtain ⟨y, hy⟩ := hel' _ _ _ g2
        refine ⟨y, cs, by rw [k1, hc], fun j c hj => ?_, hy⟩
        have := k2 j c hj
        rw [hc] at this
        rw [Addr.add_lit, Addr.add_lit] at this
        exact this
      have build : ∀ k, k ≤ len → ∃ ys : List e.den, ys.length = k ∧ ∀ i y, ys[i]? = some y → ∃ cs, cs.length = e.size ∧ (∀ j c, cs[j]? = some c → w.cell? ⟨b, off + i * e.size + j, none⟩ = some c) ∧ RepC w (Good w []) e y cs := by
        intro k
        induction k with
        | zero => intro _; exact ⟨[], rfl, fun i y h => by simp at h⟩
        | succ k ih =>
          intro hk
          obtain ⟨ys, h1, h2⟩ := ih (by omega)
          obtain ⟨y, cs, g1, g2, g3⟩ := each k (by omega)
          refine ⟨ys ++ [y], by simp [h1], fun i z hz => ?_⟩
          by_cases hi : i < ys.length
          · rw [List.getElem?_append_left hi] at hz
            exact h2 i z hz
          · have hlt := (List.getElem?_eq_some_iff.1 hz).1
            simp at hlt
            have : i = k := by omega
            subst this
            rw [List.getElem?_append_right (by omega)] at hz
            simp [h1] at hz
            subst hz
            exact ⟨cs, g1, g2, g3⟩
      obtain ⟨ys, h1, h2⟩ := build len (Nat.le_refl _)
      exact ⟨_, ys, rfl, by omega, .inr ⟨b, off, cap, by rw [h1], by omega, by omega, ⟨hb, by simp⟩, h2⟩⟩

theorem trod_repN (hsp : ∀ b, spare b = true) : ∀ (t : Ty) (T : TypeId) (fuel : Nat) (cs : List Value) (x : DataW H × List MemPlace), readsN P t T = true → DataW.trod enc P w base spare held fuel T cs = some x → ∃ y, RepC w (Good w []) t y cs
  | .sl e, T, fuel, cs, x, h, ht => by
    unfold readsN at h
    split at h
    · rename_i E hu
      simp only [Bool.and_eq_true, Bool.not_eq_true'] at h
      obtain ⟨h1, h2, h3⟩ := h
      obtain ⟨v, ys, k1, k2⟩ := trod_slice_repN hsp hu (Nat.eq_of_beq_eq_true h1) (fun hz => by rw [hz] at h2; simp at h2) (fun fuel cs x hx => trod_repN hsp e E fuel cs x h3 hx) ht
      exact ⟨ys, v, k1, k2⟩
    · cases h
  | .int k, T, fuel, cs, x, h, ht => by
    simp only [readsN, readsT, Bool.and_eq_true] at h
    exact (trod_rep (.int k)).1 T fuel cs x h.2 (Nat.eq_of_beq_eq_true h.1) ht
  | .bool, T, fuel, cs, x, h, ht => by
    simp only [readsN, readsT, Bool.and_eq_true] at h
    exact (trod_rep .bool).1 T fuel cs x h.2 (Nat.eq_of_beq_eq_true h.1) ht
  | .fn, T, fuel, cs, x, h, ht => by
    simp only [readsN, readsT, Bool.and_eq_true] at h
    exact (trod_rep .fn).1 T fuel cs x h.2 (Nat.eq_of_beq_eq_true h.1) ht
  | .str, T, fuel, cs, x, h, ht => by
    simp only [readsN, readsT, Bool.and_eq_true] at h
    exact (trod_rep .str).1 T fuel cs x h.2 (Nat.eq_of_beq_eq_true h.1) ht
  | .unit, T, fuel, cs, x, h, ht => by
    simp only [readsN, readsT, Bool.and_eq_true] at h
    exact (trod_rep .unit).1 T fuel cs x h.2 (Nat.eq_of_beq_eq_true h.1) ht
  | .cons a b, T, fuel, cs, x, h, ht => by
    simp only [readsN, readsT, Bool.and_eq_true] at h
    exact (trod_rep (.cons a b)).1 T fuel cs x h.2 (Nat.eq_of_beq_eq_true h.1) ht

def argN (P : Program) (t : Ty) (T : TypeId) : Bool := argB P t T || (match t with | .sl _ => readsN P t T | _ => false)

theorem trod_argN (hsp : ∀ b, spare b = true) {r : Reach} {b0 : Nat} {t : Ty} {T : TypeId} {v : Value} {d : DataW H} {ps : List MemPlace} (hB : argN P t T = true) (hv : Value.okWide P w r b0 T v) (h : DataW.Trod enc P w base spare held T v d ps) :
    ∃ x : t.den, RepB w (Good w []) (toAtom t x) v := by
  unfold argN at hB
  rw [Bool.or_eq_true] at hB
  rcases hB with hB | hB
  · exact trod_arg hB hv h
  · cases t with
    | sl e =>
      have hB' : readsN P (.sl e) T = true := hB
      obtain ⟨fuel, hf⟩ := h
      obtain ⟨y, u, hu, hy⟩ := trod_repN hsp (.sl e) T fuel _ _ hB' hf
      unfold readsN at hB'
      split at hB'
      · rename_i E hE
        obtain ⟨a0, len, cap, rfl⟩ := okWide_slice hE hv
        simp [Value.cells] at hu
        subst hu
        exact ⟨y, hy⟩
      · cases hB'
    | _ => cases hB

theorem trod_argsN (hsp : ∀ b, spare b = true) {r : Reach} {b0 : Nat} : ∀ {ts : List Ty} {Ts : List TypeId} {vs : List Value} {ds : List (DataW H)} {ps : List MemPlace}, ts.length = Ts.length → (∀ (i : Nat) (t : Ty) (T : TypeId), ts[i]? = some t → Ts[i]? = some T → argN P t T = true) →
    (∀ (j : Nat) T v, Ts[j]? = some T → vs[j]? = some v → Value.okWide P w r b0 T v) → DataW.TrodAll enc P w base spare held Ts vs ds ps →
    ∃ (x : sigDen (ts.map AT.v)) (bss : List (List Nat)), bss.flatten = [] ∧ ArgsRep w (Good w []) (ts.map AT.v) x vs bss
  | [], [], [], [], _, _, _, _, _ => ⟨(), [], rfl, rfl, rfl⟩
  | t :: ts, T :: Ts, v :: vs, d :: ds, ps, hl, hB, hv, h => by
    obtain ⟨p, q, h1, h2, _⟩ := h
    obtain ⟨x, hx⟩ := trod_argN hsp (hB 0 t T rfl rfl) (hv 0 T v rfl rfl) h1
    obtain ⟨y, bss, hb, hy⟩ := trod_argsN hsp (by simpa using hl) (fun i t T h1 h2 => hB (i + 1) t T (by simpa using h1) (by simpa using h2)) (fun j T v h1 h2 => hv (j + 1) T v (by simpa using h1) (by simpa using h2)) h2
    exact ⟨(x, y), [] :: bss, by simpa using hb, v, vs, [], bss, rfl, rfl, ⟨rfl, hx⟩, hy⟩
  | [], _ :: _, _, _, _, hl, _, _, _ => by simp at hl
  | _ :: _, [], _, _, _, hl, _, _, _ => by simp at hl
end

def argsN (P : Program) : List Ty → List TypeId → Bool
  | [], [] => true
  | t :: ts, T :: Ts => argN P t T && argsN P ts Ts
  | _, _ => false

theorem argsN_spec {P : Program} : ∀ {ts : List Ty} {Ts : List TypeId}, argsN P ts Ts = true → ts.length = Ts.length ∧ ∀ (i : Nat) (t : Ty) (T : TypeId), ts[i]? = some t → Ts[i]? = some T → argN P t T = true
  | [], [], _ => ⟨rfl, fun i t T h => by simp at h⟩
  | t :: ts, T :: Ts, h => by
    simp only [argsN, Bool.and_eq_true] at h
    obtain ⟨h1, h2⟩ := argsN_spec h.2
    refine ⟨by simp [h1], fun i u U hu hU => ?_⟩
    cases i with
    | zero => simp at hu hU; subst hu hU; exact h.1
    | succ i => exact h2 i u U (by simpa using hu) (by simpa using hU)
  | [], _ :: _, h => by cases h
  | _ :: _, [], h => by cases h

theorem law_callsN {H : Type} {enc : TypeId × Value → H} {C : Checked} {f : FuncId} {fn : Func} {s : ChangeSpec} {apart fresh handsOn : Bool}
    (hl : laidOutB C.prog = true) (hr : (fn.params.toList.all fun t => C.prog.readableRec t && Nat.blt t C.prog.types.size) = true)
    (ts : List Ty) (hts : argsN C.prog ts fn.params.toList = true) {tb : TypeId} (hres : fn.resultTypes = #[tb]) (htb : C.prog.underlying tb = some .bool) (hvars : s.vars = [])
    (hs : ∀ ds : List (DataW H), ds.length = fn.params.toList.length → (s.fn H (ds ++ [])).results = [.lit (.bool true)] ∧ (s.fn H (ds ++ [])).args = ds ∧ (s.fn H (ds ++ [])).vars = [])
    (hcon : Contract C.prog f (lawSpec ts)) {W : World} (hg : GInv W) {base : Nat} {args : Array Value} {ds gs : List (DataW H)} {before : List MemPlace}
    (hval : ∀ (j : Nat) t v, fn.params[j]? = some t → args[j]? = some v → Value.okWide C.prog W .any base t v)
    (hW : DataW.Whole enc C.prog fn.params.toList s.vars apart W args.toList ds gs before) :
    Calls C.prog f args W fun e W' => ∃ v, e = .returned v ∧ s.post enc C.prog fn apart fresh handsOn false W args v W' := by
  have hW' := hW
  obtain ⟨p, q, hA, hV, hbef, hfz, hnd⟩ := hW
  rw [hvars] at hV
  obtain ⟨rfl, rfl⟩ := trodVars_none hV
  obtain ⟨hlen, hall⟩ := argsN_spec hts
  obtain ⟨x, bss, hb0, hx⟩ := trod_argsN (fun _ => rfl) (r := .any) (b0 := base) hlen hall (fun j T v h1 h2 => hval j T v (by simpa using h1) (by simpa using h2)) hA
  have hcall := hcon W (Good W []) (Good W []) x args.toList bss (by rw [hb0]; exact ⟨hg, hg.size, fun b hb => by cases hb⟩) (by rw [hb0]; exact fun b hb => hb) (fun b hb => hb) trivial hx (by rw [hb0]; exact List.nodup_nil)
  rw [hb0] at hcall
  refine hcall.mono ?_
  rintro e W' ⟨rs, ubs, rbs, F, rfl, hk, hrr, _⟩
  have hrs : rs = [.bool true] := by
    obtain ⟨v, s', b, bs, h1, h2, ⟨cs, h3, h4⟩, h5⟩ := hrr
    obtain ⟨h3, _⟩ := h3
    simp only [IsVal] at h4
    rw [h3] at h4
    cases h4
    rw [h1, h5.1]
  subst hrs
  have hbel := hk.below
  obtain ⟨g1, g2, g3⟩ := hs ds (trodAll_len hA).1
  have hlt : ∀ y ∈ p, y.block < W.heap.size := fun y hy => hW'.lt y (by rw [hbef]; exact List.mem_append_left _ hy)
  have hr' : ∀ t ∈ fn.params.toList, C.prog.readableRec t = true ∧ t < C.prog.types.size := fun t ht => by
    have := List.all_eq_true.1 hr t ht
    simp only [Bool.and_eq_true] at this
    exact ⟨this.1, Nat.le_of_ble_eq_true this.2⟩
  refine ⟨.bool true, rfl, ds, [], before, [], p, [], hW', ?_, ?_, ?_, hbel.frame _, fun h => by cases h⟩
  · rw [hres, g1]
    exact trodAll_mk1 (shut_bool htb true)
  · rw [g2]
    exact trodAll_below hl hbel hr' hA hlt
  · rw [hvars, g3]
    rfl

theorem law_lifted_laidN {H : Type} {enc : TypeId × Value → H} {a : Assume} {C : Checked} {os : Os} {f : FuncId} {fn : Func} {s : ChangeSpec} {conds : List PathCond} {apart fresh handsOn : Bool} {laid : List (String × DataW Unit)}
    (own : ownKnob C.prog.godebug = none) (started : os.Started) (noInit : C.prog.inits.idxOf? f = none) (hfn : C.prog.funcs[f]? = some fn)
    (witness : ∃ (w : World) (tape : Tape) (i : Input), w.os = os ∧ (w.forCall tape i).Shaped C.prog ∧ i.vars = [] ∧ Input.okWide C.prog (w.forCall tape i) .any w.heap.size f i ∧
      ((s.pre enc C.prog fn conds apart (w.forCall tape i).memory i.args ∧ laidMetH C.prog laid (w.forCall tape i).memory) ∧ sizedMet enc C.prog fn (OpenSpec.ofChange s) apart (w.forCall tape i).memory i.args) ∧ a.holds C.prog (lone (Frame.enter C.prog f i.args .normal) [] (w.forCall tape i)))
    (hl : laidOutB C.prog = true) (hr : (fn.params.toList.all fun t => C.prog.readableRec t && Nat.blt t C.prog.types.size) = true)
    (ts : List Ty) (hts : argsN C.prog ts fn.params.toList = true) {tb : TypeId} (hres : fn.resultTypes = #[tb]) (htb : C.prog.underlying tb = some .bool) (hvars : s.vars = [])
    (hs : ∀ ds : List (DataW H), ds.length = fn.params.toList.length → (s.fn H (ds ++ [])).results = [.lit (.bool true)] ∧ (s.fn H (ds ++ [])).args = ds ∧ (s.fn H (ds ++ [])).vars = [])
    (hg : ∀ W : World, W.ShapedOpen C.prog → laidMetH C.prog laid W → GInv W) (hcon : Contract C.prog f (lawSpec ts)) :
    ReturnsInHanded a C os f .any (fun w args => (s.pre enc C.prog fn conds apart w args ∧ laidMetH C.prog laid w) ∧ sizedMet enc C.prog fn (OpenSpec.ofChange s) apart w args) (s.post enc C.prog fn apart fresh handsOn false) := by
  refine returnsInHanded_of_calls own started noInit witness ?_
  intro w tape i _ hsh _ hok hpre hholds
  obtain ⟨_, _, _, fn', hfn', _, _, _, _, hval⟩ := hok
  have e : fn' = fn := Option.some.inj (hfn'.symm.trans hfn)
  subst e
  obtain ⟨⟨⟨ds, gs, before, hw, hc⟩, hx⟩, hz⟩ := hpre
  have hw' := DataW.Whole.of_heap (w' := w.forCall tape i) (by rfl) hw
  have hx' : laidMetH C.prog laid (w.forCall tape i) := hx.of_heap (by rfl)
  refine (law_callsN (fresh := fresh) (handsOn := handsOn) hl hr ts hts hres htb hvars hs hcon (hg _ hsh hx') hval hw').mono fun e W' ⟨v, he, hp⟩ => ?_
  subst he
  exact ChangeSpec.post_blind hp
end Go.Am
