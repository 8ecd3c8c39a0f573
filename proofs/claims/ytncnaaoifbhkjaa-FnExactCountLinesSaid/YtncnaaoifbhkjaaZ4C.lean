/- Several texts in one: the functions that this law reaches, and their laws. -/
import Derived.Test.YtncnaaoifbhkjaaZ4A
import Derived.Test.YtncnaaoifbhkjaaZ4B
import Derived.Shelf.Small.Bits
import Derived.Shelf.Strconv.Itoa0
import Derived.Shelf.Strings.Search1
import Derived.Shelf.Strings.Search2
import Derived.Shelf.Strings.Search3
import Derived.Shelf.LaysM
import Derived.Shelf.Strings.Shaped
import Derived.Shelf.Sort.Plain
import Derived.Ground.Names2Prog
import Derived.Shelf.Slices.Clone
import Derived.Shelf.Slices.In.SortNone
import Derived.Ground.SlgnProg
import Derived.Shelf.SlicesE.Clone
import Derived.Ground.SlgfProg
import Derived.Shelf.SlicesE.IndexFunc

/- Function 13 (spec.CountLines): its runs between cut points. Written by a program of this repo (gen). -/
set_option linter.unusedVariables false
set_option linter.unusedSimpArgs false
set_option maxRecDepth 100000
namespace Go.Proofs.Ytncnaaoifbhkjaa
open Go Go.Am Go.Proofs
def ext13 : Ext := [(31, S31), (32, S32)]
theorem call13_31 : Callable Try.prog 31 := ⟨Try.f31, Try.func31, by kernel_rfl, by kernel_rfl⟩
theorem call13_32 : Callable Try.prog 32 := ⟨Try.f32, Try.func32, by kernel_rfl, by kernel_rfl⟩
theorem ext13Ok : ExtOk Try.prog ext13 := ⟨⟨call13_31, con31⟩, ⟨call13_32, con32⟩, trivial⟩
/-! Function 13. -/
noncomputable def b13 : Code := bodyOf Try.f13
theorem hb13 : Try.f13.body = some b13 := by kernel_rfl
def sig13 : List AT := [AT.v (Ty.sl Ty.str)]
def tys13 : List Ty := [Ty.sl Ty.str, Ty.sl (Ty.int IntKind.i64), Ty.int IntKind.i64]
def E13_7 (v8 : Int) (h1 : List ByteArray) (h2 : List Int) (x0 : List ByteArray) : Env := [(5, PV.a (Atom.osl 0 Option.none)), (6, PV.a (Atom.osl 1 Option.none)), (7, PV.a (Atom.osl 2 Option.none)), (8, PV.a (Atom.val (Value.int IntKind.i64 v8)))]
def L13_7 (v8 : Int) (h1 : List ByteArray) (h2 : List Int) (x0 : List ByteArray) : Heap := [Option.some (Arr.mk Ty.str (g32_0 x0) Bool.false), Option.some (Arr.mk Ty.str h1 Bool.false), Option.some (Arr.mk (Ty.int IntKind.i64) h2 Bool.false)]
mutual
def R13 : Nat → List ByteArray → List Dyn → Prop
  | 0, _, _ => False
  | n + 1, x0, ds => (if (!g31_0 x0) = true then (ds = [Dyn.mk (Ty.sl Ty.str) [], Dyn.mk (Ty.sl (Ty.int IntKind.i64)) [], Dyn.mk (Ty.int IntKind.i64) 1]) else ((P32 x0) ∧ (R13_7 n (0) ([]) ([]) (x0) ds)))
def R13_7 : Nat → Int → List ByteArray → List Int → List ByteArray → List Dyn → Prop
  | 0, _, _, _, _, _ => False
  | n + 1, v8, h1, h2, x0, ds => (if (Decidable.decide (v8 < (↑(List.length (g32_0 x0)) : Int))) = true then (if (v8 == 0) = true then ((0 ≤ v8) ∧ (v8 < (↑(List.length (g32_0 x0)) : Int)) ∧ (((List.length h1 + 1) * 16 ≤ 140737488355328) ∧ (((List.length h2 + 1) * 8 ≤ 140737488355328) ∧ ((InR IntKind.i64 ((↑(List.length (h2 ++ [0])) : Int) - 1)) ∧ ((0 ≤ (↑(List.length (h2 ++ [0])) : Int) - 1) ∧ ((↑(List.length (h2 ++ [0])) : Int) - 1 < (↑(List.length (h2 ++ [0])) : Int)) ∧ ((InR IntKind.i64 (List.getD (h2 ++ [0]) (Int.toNat ((↑(List.length (h2 ++ [0])) : Int) - 1)) 0 + 1)) ∧ ((0 ≤ (↑(List.length (h2 ++ [0])) : Int) - 1) ∧ ((↑(List.length (h2 ++ [0])) : Int) - 1 < (↑(List.length (h2 ++ [0])) : Int)) ∧ ((InR IntKind.i64 (v8 + 1)) ∧ (R13_7 n (v8 + 1) (h1 ++ [List.getD (g32_0 x0) (Int.toNat v8) ByteArray.empty]) (List.set (h2 ++ [0]) (Int.toNat ((↑(List.length (h2 ++ [0])) : Int) - 1)) (List.getD (h2 ++ [0]) (Int.toNat ((↑(List.length (h2 ++ [0])) : Int) - 1)) 0 + 1)) (x0) ds))))))))) else ((0 ≤ v8) ∧ (v8 < (↑(List.length (g32_0 x0)) : Int)) ∧ ((InR IntKind.i64 (v8 - 1)) ∧ ((0 ≤ v8 - 1) ∧ (v8 - 1 < (↑(List.length (g32_0 x0)) : Int)) ∧ (if (!ByteArray.toList (List.getD (g32_0 x0) (Int.toNat v8) ByteArray.empty) == ByteArray.toList (List.getD (g32_0 x0) (Int.toNat (v8 - 1)) ByteArray.empty)) = true then ((0 ≤ v8) ∧ (v8 < (↑(List.length (g32_0 x0)) : Int)) ∧ (((List.length h1 + 1) * 16 ≤ 140737488355328) ∧ (((List.length h2 + 1) * 8 ≤ 140737488355328) ∧ ((InR IntKind.i64 ((↑(List.length (h2 ++ [0])) : Int) - 1)) ∧ ((0 ≤ (↑(List.length (h2 ++ [0])) : Int) - 1) ∧ ((↑(List.length (h2 ++ [0])) : Int) - 1 < (↑(List.length (h2 ++ [0])) : Int)) ∧ ((InR IntKind.i64 (List.getD (h2 ++ [0]) (Int.toNat ((↑(List.length (h2 ++ [0])) : Int) - 1)) 0 + 1)) ∧ ((0 ≤ (↑(List.length (h2 ++ [0])) : Int) - 1) ∧ ((↑(List.length (h2 ++ [0])) : Int) - 1 < (↑(List.length (h2 ++ [0])) : Int)) ∧ ((InR IntKind.i64 (v8 + 1)) ∧ (R13_7 n (v8 + 1) (h1 ++ [List.getD (g32_0 x0) (Int.toNat v8) ByteArray.empty]) (List.set (h2 ++ [0]) (Int.toNat ((↑(List.length (h2 ++ [0])) : Int) - 1)) (List.getD (h2 ++ [0]) (Int.toNat ((↑(List.length (h2 ++ [0])) : Int) - 1)) 0 + 1)) (x0) ds))))))))) else ((InR IntKind.i64 ((↑(List.length h2) : Int) - 1)) ∧ ((0 ≤ (↑(List.length h2) : Int) - 1) ∧ ((↑(List.length h2) : Int) - 1 < (↑(List.length h2) : Int)) ∧ ((InR IntKind.i64 (List.getD h2 (Int.toNat ((↑(List.length h2) : Int) - 1)) 0 + 1)) ∧ ((0 ≤ (↑(List.length h2) : Int) - 1) ∧ ((↑(List.length h2) : Int) - 1 < (↑(List.length h2) : Int)) ∧ ((InR IntKind.i64 (v8 + 1)) ∧ (R13_7 n (v8 + 1) (h1) (List.set h2 (Int.toNat ((↑(List.length h2) : Int) - 1)) (List.getD h2 (Int.toNat ((↑(List.length h2) : Int) - 1)) 0 + 1)) (x0) ds))))))))))) else (ds = [Dyn.mk (Ty.sl Ty.str) h1, Dyn.mk (Ty.sl (Ty.int IntKind.i64)) h2, Dyn.mk (Ty.int IntKind.i64) 0]))
end
theorem p13_0 (x0 : List ByteArray) : runF tab ext13 false 56 [] 2000 [] tys13 Try.f13.results [true] [.code b13] (entE 0 0 sig13 (x0, ())) (entL sig13 (x0, ())) = some ([Dyn.mk (Ty.sl Ty.str) [], Dyn.mk (Ty.sl (Ty.int IntKind.i64)) [], Dyn.mk (Ty.int IntKind.i64) 1], [], [True, (!g31_0 x0) = Bool.true]) := by kernel_rfl
theorem p13_1 (x0 : List ByteArray) : Am.runN tab ext13 false 56 [] 2000 [] [] [5, 6, 7, 8] [true, true, true] [false] [.code b13] (entE 0 0 sig13 (x0, ())) (entL sig13 (x0, ())) = some (cutAt b13 7, E13_7 (0) ([]) ([]) (x0), L13_7 (0) ([]) ([]) (x0), [True, (!g31_0 x0) = Bool.false, P32 x0]) := by kernel_rfl
theorem p13_2 (v8 : Int) (h1 : List ByteArray) (h2 : List Int) (x0 : List ByteArray) : Am.runN tab ext13 false 56 [] 2000 [] [] [5, 6, 7, 8] [true, true, true] [true, true, true] (cutAt b13 7) (E13_7 v8 h1 h2 x0) (L13_7 v8 h1 h2 x0) = some (cutAt b13 7, E13_7 (v8 + 1) (h1 ++ [List.getD (g32_0 x0) (Int.toNat v8) ByteArray.empty]) (List.set (h2 ++ [0]) (Int.toNat ((↑(List.length (h2 ++ [0])) : Int) - 1)) (List.getD (h2 ++ [0]) (Int.toNat ((↑(List.length (h2 ++ [0])) : Int) - 1)) 0 + 1)) (x0), L13_7 (v8 + 1) (h1 ++ [List.getD (g32_0 x0) (Int.toNat v8) ByteArray.empty]) (List.set (h2 ++ [0]) (Int.toNat ((↑(List.length (h2 ++ [0])) : Int) - 1)) (List.getD (h2 ++ [0]) (Int.toNat ((↑(List.length (h2 ++ [0])) : Int) - 1)) 0 + 1)) (x0), [Decidable.decide (v8 < (↑(List.length (g32_0 x0)) : Int)) = Bool.true, (v8 == 0) = Bool.true, Bool.true = Bool.true, 0 ≤ v8, v8 < (↑(List.length (g32_0 x0)) : Int), (List.length h1 + 1) * 16 ≤ 140737488355328, (List.length h2 + 1) * 8 ≤ 140737488355328, InR IntKind.i64 ((↑(List.length (h2 ++ [0])) : Int) - 1), 0 ≤ (↑(List.length (h2 ++ [0])) : Int) - 1, (↑(List.length (h2 ++ [0])) : Int) - 1 < (↑(List.length (h2 ++ [0])) : Int), InR IntKind.i64 (List.getD (h2 ++ [0]) (Int.toNat ((↑(List.length (h2 ++ [0])) : Int) - 1)) 0 + 1), 0 ≤ (↑(List.length (h2 ++ [0])) : Int) - 1, (↑(List.length (h2 ++ [0])) : Int) - 1 < (↑(List.length (h2 ++ [0])) : Int), InR IntKind.i64 (v8 + 1)]) := by kernel_rfl
theorem p13_3 (v8 : Int) (h1 : List ByteArray) (h2 : List Int) (x0 : List ByteArray) : Am.runN tab ext13 false 56 [] 2000 [] [] [5, 6, 7, 8] [true, true, true] [true, false, true] (cutAt b13 7) (E13_7 v8 h1 h2 x0) (L13_7 v8 h1 h2 x0) = some (cutAt b13 7, E13_7 (v8 + 1) (h1 ++ [List.getD (g32_0 x0) (Int.toNat v8) ByteArray.empty]) (List.set (h2 ++ [0]) (Int.toNat ((↑(List.length (h2 ++ [0])) : Int) - 1)) (List.getD (h2 ++ [0]) (Int.toNat ((↑(List.length (h2 ++ [0])) : Int) - 1)) 0 + 1)) (x0), L13_7 (v8 + 1) (h1 ++ [List.getD (g32_0 x0) (Int.toNat v8) ByteArray.empty]) (List.set (h2 ++ [0]) (Int.toNat ((↑(List.length (h2 ++ [0])) : Int) - 1)) (List.getD (h2 ++ [0]) (Int.toNat ((↑(List.length (h2 ++ [0])) : Int) - 1)) 0 + 1)) (x0), [Decidable.decide (v8 < (↑(List.length (g32_0 x0)) : Int)) = Bool.true, (v8 == 0) = Bool.false, 0 ≤ v8, v8 < (↑(List.length (g32_0 x0)) : Int), InR IntKind.i64 (v8 - 1), 0 ≤ v8 - 1, v8 - 1 < (↑(List.length (g32_0 x0)) : Int), (!ByteArray.toList (List.getD (g32_0 x0) (Int.toNat v8) ByteArray.empty) == ByteArray.toList (List.getD (g32_0 x0) (Int.toNat (v8 - 1)) ByteArray.empty)) = Bool.true, 0 ≤ v8, v8 < (↑(List.length (g32_0 x0)) : Int), (List.length h1 + 1) * 16 ≤ 140737488355328, (List.length h2 + 1) * 8 ≤ 140737488355328, InR IntKind.i64 ((↑(List.length (h2 ++ [0])) : Int) - 1), 0 ≤ (↑(List.length (h2 ++ [0])) : Int) - 1, (↑(List.length (h2 ++ [0])) : Int) - 1 < (↑(List.length (h2 ++ [0])) : Int), InR IntKind.i64 (List.getD (h2 ++ [0]) (Int.toNat ((↑(List.length (h2 ++ [0])) : Int) - 1)) 0 + 1), 0 ≤ (↑(List.length (h2 ++ [0])) : Int) - 1, (↑(List.length (h2 ++ [0])) : Int) - 1 < (↑(List.length (h2 ++ [0])) : Int), InR IntKind.i64 (v8 + 1)]) := by kernel_rfl
theorem p13_4 (v8 : Int) (h1 : List ByteArray) (h2 : List Int) (x0 : List ByteArray) : Am.runN tab ext13 false 56 [] 2000 [] [] [5, 6, 7, 8] [true, true, true] [true, false, false] (cutAt b13 7) (E13_7 v8 h1 h2 x0) (L13_7 v8 h1 h2 x0) = some (cutAt b13 7, E13_7 (v8 + 1) (h1) (List.set h2 (Int.toNat ((↑(List.length h2) : Int) - 1)) (List.getD h2 (Int.toNat ((↑(List.length h2) : Int) - 1)) 0 + 1)) (x0), L13_7 (v8 + 1) (h1) (List.set h2 (Int.toNat ((↑(List.length h2) : Int) - 1)) (List.getD h2 (Int.toNat ((↑(List.length h2) : Int) - 1)) 0 + 1)) (x0), [Decidable.decide (v8 < (↑(List.length (g32_0 x0)) : Int)) = Bool.true, (v8 == 0) = Bool.false, 0 ≤ v8, v8 < (↑(List.length (g32_0 x0)) : Int), InR IntKind.i64 (v8 - 1), 0 ≤ v8 - 1, v8 - 1 < (↑(List.length (g32_0 x0)) : Int), (!ByteArray.toList (List.getD (g32_0 x0) (Int.toNat v8) ByteArray.empty) == ByteArray.toList (List.getD (g32_0 x0) (Int.toNat (v8 - 1)) ByteArray.empty)) = Bool.false, InR IntKind.i64 ((↑(List.length h2) : Int) - 1), 0 ≤ (↑(List.length h2) : Int) - 1, (↑(List.length h2) : Int) - 1 < (↑(List.length h2) : Int), InR IntKind.i64 (List.getD h2 (Int.toNat ((↑(List.length h2) : Int) - 1)) 0 + 1), 0 ≤ (↑(List.length h2) : Int) - 1, (↑(List.length h2) : Int) - 1 < (↑(List.length h2) : Int), InR IntKind.i64 (v8 + 1)]) := by kernel_rfl
theorem p13_5 (v8 : Int) (h1 : List ByteArray) (h2 : List Int) (x0 : List ByteArray) : runF tab ext13 false 56 [] 2000 [] tys13 Try.f13.results [false] (cutAt b13 7) (E13_7 v8 h1 h2 x0) (L13_7 v8 h1 h2 x0) = some ([Dyn.mk (Ty.sl Ty.str) h1, Dyn.mk (Ty.sl (Ty.int IntKind.i64)) h2, Dyn.mk (Ty.int IntKind.i64) 0], [], [Decidable.decide (v8 < (↑(List.length (g32_0 x0)) : Int)) = Bool.false]) := by kernel_rfl
theorem snd13 : ∀ n, (∀ (x0 : List ByteArray) ds, R13 n x0 ds → ∀ w0 O q, AtV Try.prog 13 (PostR ds [] [] q w0 O) 56 w0 O q [] [.code b13] (entE 0 0 sig13 (x0, ())) (entL sig13 (x0, ()))) ∧ (∀ (v8 : Int) (h1 : List ByteArray) (h2 : List Int) (x0 : List ByteArray) ds, R13_7 n v8 h1 h2 x0 ds → ∀ w0 O q, AtV Try.prog 13 (PostR ds [] [] q w0 O) 56 w0 O q [] (cutAt b13 7) (E13_7 v8 h1 h2 x0) (L13_7 v8 h1 h2 x0)) := by
  intro n
  induction n with
  | zero => exact ⟨fun _ _ h => by simp only [R13] at h, fun _ _ _ _ _ h => by simp only [R13_7] at h⟩
  | succ n ih =>
  obtain ⟨ih, ih7⟩ := ih
  refine ⟨?_, ?_⟩
  · intro x0 ds h w0 O q
    rw [R13] at h
    by_cases b0 : (!g31_0 x0) = true
    · rw [if_pos b0] at h
      subst h
      exact AtV.fin Try.func13 tabOk ext13Ok mixed (p13_0 x0) ⟨trivial, b0, trivial⟩
    · rw [if_neg b0] at h
      replace b0 := Bool.eq_false_iff.2 b0
      obtain ⟨s0, h⟩ := h
      exact AtV.runN tabOk ext13Ok mixed (p13_1 x0) ⟨trivial, b0, s0, trivial⟩ (ih7 _ _ _ _ _ h w0 O q)

  · intro v8 h1 h2 x0 ds h w0 O q
    rw [R13_7] at h
    by_cases b0 : (Decidable.decide (v8 < (↑(List.length (g32_0 x0)) : Int))) = true
    · rw [if_pos b0] at h
      by_cases b1 : (v8 == 0) = true
      · rw [if_pos b1] at h
        obtain ⟨s0, s1, h⟩ := h
        obtain ⟨s2, h⟩ := h
        obtain ⟨s3, h⟩ := h
        obtain ⟨s4, h⟩ := h
        obtain ⟨s5, s6, h⟩ := h
        obtain ⟨s7, h⟩ := h
        obtain ⟨s8, s9, h⟩ := h
        obtain ⟨s10, h⟩ := h
        exact AtV.runN tabOk ext13Ok mixed (p13_2 v8 h1 h2 x0) ⟨b0, b1, rfl, s0, s1, s2, s3, s4, s5, s6, s7, s8, s9, s10, trivial⟩ (ih7 _ _ _ _ _ h w0 O q)
      · rw [if_neg b1] at h
        replace b1 := Bool.eq_false_iff.2 b1
        obtain ⟨s0, s1, h⟩ := h
        obtain ⟨s2, h⟩ := h
        obtain ⟨s3, s4, h⟩ := h
        by_cases b2 : (!ByteArray.toList (List.getD (g32_0 x0) (Int.toNat v8) ByteArray.empty) == ByteArray.toList (List.getD (g32_0 x0) (Int.toNat (v8 - 1)) ByteArray.empty)) = true
        · rw [if_pos b2] at h
          obtain ⟨s5, s6, h⟩ := h
          obtain ⟨s7, h⟩ := h
          obtain ⟨s8, h⟩ := h
          obtain ⟨s9, h⟩ := h
          obtain ⟨s10, s11, h⟩ := h
          obtain ⟨s12, h⟩ := h
          obtain ⟨s13, s14, h⟩ := h
          obtain ⟨s15, h⟩ := h
          exact AtV.runN tabOk ext13Ok mixed (p13_3 v8 h1 h2 x0) ⟨b0, b1, s0, s1, s2, s3, s4, b2, s5, s6, s7, s8, s9, s10, s11, s12, s13, s14, s15, trivial⟩ (ih7 _ _ _ _ _ h w0 O q)
        · rw [if_neg b2] at h
          replace b2 := Bool.eq_false_iff.2 b2
          obtain ⟨s5, h⟩ := h
          obtain ⟨s6, s7, h⟩ := h
          obtain ⟨s8, h⟩ := h
          obtain ⟨s9, s10, h⟩ := h
          obtain ⟨s11, h⟩ := h
          exact AtV.runN tabOk ext13Ok mixed (p13_4 v8 h1 h2 x0) ⟨b0, b1, s0, s1, s2, s3, s4, b2, s5, s6, s7, s8, s9, s10, s11, trivial⟩ (ih7 _ _ _ _ _ h w0 O q)
    · rw [if_neg b0] at h
      replace b0 := Bool.eq_false_iff.2 b0
      subst h
      exact AtV.fin Try.func13 tabOk ext13Ok mixed (p13_5 v8 h1 h2 x0) ⟨b0, trivial⟩


def g13_0 (x0 : List ByteArray) : List ByteArray := if g31_0 x0 = true then (counted (g32_0 x0)).1.1 else []
def g13_1 (x0 : List ByteArray) : List Int := if g31_0 x0 = true then (counted (g32_0 x0)).1.2 else []
def g13_2 (x0 : List ByteArray) : Int := if g31_0 x0 = true then 0 else 1
def P13 (x0 : List ByteArray) : Prop := x0.length ≤ 1048576

theorem top13 (x0 : List ByteArray) (hp : P13 x0) : ∃ n, R13 n x0 [⟨.sl .str, g13_0 x0⟩, ⟨.sl (.int .i64), g13_1 x0⟩, ⟨.int .i64, g13_2 x0⟩] := by
  by_cases hok : g31_0 x0 = true
  case neg =>
    refine ⟨1, ?_⟩
    rw [R13]
    have hok := Bool.eq_false_iff.2 hok
    rw [if_pos (by rw [hok]; rfl)]
    simp [g13_0, g13_1, g13_2, hok]
  case pos =>
    have hl : x0.length ≤ 1048576 := hp
    have hs : (g32_0 x0).length = x0.length := (sortB_perm x0).length_eq
    have hm : (g32_0 x0).length ≤ maxLen := by unfold maxLen; omega
    refine ⟨(g32_0 x0).length + 1 + 1, ?_⟩
    rw [R13, if_neg (by rw [hok]; simp)]
    refine ⟨hl, ?_⟩
    unfold g13_0 g13_1 g13_2
    rw [if_pos hok, if_pos hok, if_pos hok]
    refine loop_fold (b := (([], []), 0)) (g32_0 x0) ByteArray.empty (cntStep (g32_0 x0)) (fun b => [(⟨.sl .str, b.1.1⟩ : Dyn), ⟨.sl (.int .i64), b.1.2⟩, ⟨.int .i64, (0 : Int)⟩]) CntInv (fun n i b ds => R13_7 n i b.1.1 b.1.2 x0 ds) ⟨rfl, by simp, rfl, .inl rfl, by simp⟩ (fun n b _ => ?_) (fun n i b hi hb => ⟨cnt_inv _ _ hb, fun ds hr => ?_⟩)
    · show R13_7 (n + 1) (g32_0 x0).length b.1.1 b.1.2 x0 _
      rw [R13_7, if_neg (by simp)]
    · obtain ⟨⟨h1, h2⟩, j⟩ := b
      obtain ⟨e, a1, a2, a3, a4⟩ := hb
      simp only at e a1 a2 a3 a4
      subst e
      have hup := inR_up hm hi
      obtain ⟨c1, c2, c3, c4⟩ := cnt_side (h := h2 ++ [0]) (n := j) (by simp) (by simp; omega) (fun c hc => by
        rcases List.mem_append.1 hc with hc | hc
        · exact a4 c hc
        · rw [List.mem_singleton.1 hc]; omega) (by omega)
      show R13_7 (n + 1) (j : Int) h1 h2 x0 ds
      rw [R13_7, if_pos (by simp only [decide_eq_true_eq]; omega)]
      unfold cntStep cntNew at hr
      simp only at hr
      by_cases h0 : j = 0
      · subst h0
        rw [if_pos (by simp)] at hr
        rw [if_pos (by rfl)]
        exact ⟨by omega, by omega, by omega, by omega, c1, c2, c3, c4, c2, c3, hup, hr⟩
      · obtain ⟨d1, d2, d3, d4⟩ := cnt_side (h := h2) (n := j) (by rcases a3 with a3 | a3; exact absurd a3 h0; exact a3) (by omega) a4 (by omega)
        have t : ((j : Int) - 1).toNat = j - 1 := by omega
        rw [if_neg (by simp; omega)]
        simp only [Int.toNat_natCast, t]
        refine ⟨by omega, by omega, by rw [i64_iff]; omega, by omega, by omega, ?_⟩
        by_cases hn : (!(ByteArray.toList ((g32_0 x0).getD j ByteArray.empty) == ByteArray.toList ((g32_0 x0).getD (j - 1) ByteArray.empty))) = true
        · rw [if_pos (by rw [hn]; simp)] at hr
          rw [if_pos (by exact hn)]
          exact ⟨by omega, by omega, by omega, by omega, c1, c2, c3, c4, c2, c3, hup, hr⟩
        · rw [if_neg (by rw [Bool.or_eq_true]; rintro (h | h); exact h0 (of_decide_eq_true h); exact hn h)] at hr
          rw [if_neg (by exact hn)]
          exact ⟨d1, d2, d3, d4, d2, d3, hup, hr⟩

def S13 : Am.Spec := { sig := sig13, pre := fun ⟨x0, _⟩ => P13 x0, res := fun ⟨x0, _⟩ => [⟨.sl .str, g13_0 x0⟩, ⟨.sl (.int .i64), g13_1 x0⟩, ⟨.int .i64, g13_2 x0⟩] }
theorem con13 : Contract Try.prog 13 S13 := contract_of Try.func13 hb13 (Nat.le_of_ble_eq_true (by kernel_rfl)) (fun ⟨x0, _⟩ h hwf w0 O q =>
  let ⟨n, hn⟩ := top13 x0 h
  (snd13 n).1 x0 _ hn w0 O q)

end Go.Proofs.Ytncnaaoifbhkjaa

/- Function 64 (impl.isReportLine$1): its runs between cut points. Written by a program of this repo (gen). -/
set_option linter.unusedVariables false
set_option linter.unusedSimpArgs false
set_option maxRecDepth 100000
namespace Go.Proofs.Ytncnaaoifbhkjaa
open Go Go.Am Go.Proofs
def ext64 : Ext := []
theorem ext64Ok : ExtOk Try.prog ext64 := trivial
/-! Function 64. -/
noncomputable def b64 : Code := bodyOf Try.f64
theorem hb64 : Try.f64.body = some b64 := by kernel_rfl
def sig64 : List AT := [AT.v (Ty.int IntKind.u8)]
def tys64 : List Ty := [Ty.bool]
def P64 (x0 : Int) : Prop := True
def g64_0 (x0 : Int) : Bool := (if (Decidable.decide (x0 < 32)) = true then Bool.true else Decidable.decide (x0 > 126))
theorem p64_0 (x0 : Int) : runF tab ext64 false 9 [] 2000 [] tys64 Try.f64.results [true] [.code b64] (entE 0 0 sig64 (x0, ())) (entL sig64 (x0, ())) = some ([Dyn.mk Ty.bool Bool.true], [], [Decidable.decide (x0 < 32) = Bool.true]) := by kernel_rfl
theorem p64_1 (x0 : Int) : runF tab ext64 false 9 [] 2000 [] tys64 Try.f64.results [false] [.code b64] (entE 0 0 sig64 (x0, ())) (entL sig64 (x0, ())) = some ([Dyn.mk Ty.bool (Decidable.decide (x0 > 126))], [], [Decidable.decide (x0 < 32) = Bool.false]) := by kernel_rfl
theorem at64 (x0 : Int) (h : P64 x0) (w0 : World) (O : List Nat) (q : Nat → Value) : AtV Try.prog 64 (PostR [⟨Ty.bool, g64_0 x0⟩] [] [] q w0 O) 9 w0 O q [] [.code b64] (entE 0 0 sig64 (x0, ())) (entL sig64 (x0, ())) := by
  unfold P64 at h
  unfold g64_0
  by_cases b0 : (Decidable.decide (x0 < 32)) = true
  · try simp only [if_pos b0] at h ⊢
    exact AtV.fin Try.func64 tabOk ext64Ok mixed (p64_0 x0) ⟨b0, trivial⟩
  · try simp only [if_neg b0] at h ⊢
    replace b0 := Bool.eq_false_iff.2 b0
    exact AtV.fin Try.func64 tabOk ext64Ok mixed (p64_1 x0) ⟨b0, trivial⟩

def S64 : Am.Spec := { sig := sig64, pre := fun ⟨x0, _⟩ => P64 x0, res := fun ⟨x0, _⟩ => [⟨Ty.bool, g64_0 x0⟩] }
theorem con64 : Contract Try.prog 64 S64 := contract_of Try.func64 hb64 (Nat.le_of_ble_eq_true (by kernel_rfl)) (fun ⟨x0, _⟩ h _ w0 O q => at64 x0 h w0 O q)


end Go.Proofs.Ytncnaaoifbhkjaa

/- Function 78 (slices.IndexFunc[[]byte,byte]): its runs between cut points. Written by a program of this repo (gen). -/
set_option linter.unusedVariables false
set_option linter.unusedSimpArgs false
set_option maxRecDepth 100000
namespace Go.Proofs.Ytncnaaoifbhkjaa
open Go Go.Am Go.Proofs
def ext78c64 : Ext := [(64, S64)]
theorem call78c64_64 : Callable Try.prog 64 := ⟨Try.f64, Try.func64, by kernel_rfl, by kernel_rfl⟩
theorem ext78c64Ok : ExtOk Try.prog ext78c64 := ⟨⟨call78c64_64, con64⟩, trivial⟩
/-! Function 78c64. -/
noncomputable def b78c64 : Code := bodyOf Try.f78
theorem hb78c64 : Try.f78.body = some b78c64 := by kernel_rfl
def sig78c64 : List AT := [AT.v (Ty.sl (Ty.int IntKind.u8)), AT.fn 64 []]
def tys78c64 : List Ty := [Ty.int IntKind.i64]
def E78c64_2 (v8 : Int) (x0 : List Int) : Env := [(0, PV.a (Atom.sl (Ty.int IntKind.u8) x0)), (1, PV.fn 64 []), (7, PV.a (Atom.val (Value.int IntKind.i64 (↑(List.length x0) : Int)))), (8, PV.a (Atom.val (Value.int IntKind.i64 v8)))]
def L78c64_2 (v8 : Int) (x0 : List Int) : Heap := []
mutual
def R78c64 : Nat → List Int → List Dyn → Prop
  | 0, _, _ => False
  | n + 1, x0, ds => (R78c64_2 n (0) (x0) ds)
def R78c64_2 : Nat → Int → List Int → List Dyn → Prop
  | 0, _, _, _ => False
  | n + 1, v8, x0, ds => (if (Decidable.decide (v8 < (↑(List.length x0) : Int))) = true then ((0 ≤ v8) ∧ (v8 < (↑(List.length x0) : Int)) ∧ (if (g64_0 (List.getD x0 (Int.toNat v8) 0)) = true then (ds = [Dyn.mk (Ty.int IntKind.i64) v8]) else ((InR IntKind.i64 (v8 + 1)) ∧ (R78c64_2 n (v8 + 1) (x0) ds)))) else (ds = [Dyn.mk (Ty.int IntKind.i64) (-1)]))
end
theorem p78c64_0 (x0 : List Int) : Am.runN tab ext78c64 false 19 [] 2000 [] [] [0, 1, 7, 8] [] [] [.code b78c64] (entE 0 0 sig78c64 (x0, (), ())) (entL sig78c64 (x0, (), ())) = some (cutAt b78c64 2, E78c64_2 (0) (x0), L78c64_2 (0) (x0), []) := by kernel_rfl
theorem p78c64_1 (v8 : Int) (x0 : List Int) : runF tab ext78c64 false 19 [] 2000 [] tys78c64 Try.f78.results [true, true] (cutAt b78c64 2) (E78c64_2 v8 x0) (L78c64_2 v8 x0) = some ([Dyn.mk (Ty.int IntKind.i64) v8], [], [Decidable.decide (v8 < (↑(List.length x0) : Int)) = Bool.true, 0 ≤ v8, v8 < (↑(List.length x0) : Int), True, g64_0 (List.getD x0 (Int.toNat v8) 0) = Bool.true]) := by kernel_rfl
theorem p78c64_2 (v8 : Int) (x0 : List Int) : Am.runN tab ext78c64 false 19 [] 2000 [] [] [0, 1, 7, 8] [] [true, false] (cutAt b78c64 2) (E78c64_2 v8 x0) (L78c64_2 v8 x0) = some (cutAt b78c64 2, E78c64_2 (v8 + 1) (x0), L78c64_2 (v8 + 1) (x0), [Decidable.decide (v8 < (↑(List.length x0) : Int)) = Bool.true, 0 ≤ v8, v8 < (↑(List.length x0) : Int), True, g64_0 (List.getD x0 (Int.toNat v8) 0) = Bool.false, InR IntKind.i64 (v8 + 1)]) := by kernel_rfl
theorem p78c64_3 (v8 : Int) (x0 : List Int) : runF tab ext78c64 false 19 [] 2000 [] tys78c64 Try.f78.results [false] (cutAt b78c64 2) (E78c64_2 v8 x0) (L78c64_2 v8 x0) = some ([Dyn.mk (Ty.int IntKind.i64) (-1)], [], [Decidable.decide (v8 < (↑(List.length x0) : Int)) = Bool.false]) := by kernel_rfl
theorem snd78c64 : ∀ n, (∀ (x0 : List Int) ds, R78c64 n x0 ds → ∀ w0 O q, AtV Try.prog 78 (PostR ds [] [] q w0 O) 19 w0 O q [] [.code b78c64] (entE 0 0 sig78c64 (x0, (), ())) (entL sig78c64 (x0, (), ()))) ∧ (∀ (v8 : Int) (x0 : List Int) ds, R78c64_2 n v8 x0 ds → ∀ w0 O q, AtV Try.prog 78 (PostR ds [] [] q w0 O) 19 w0 O q [] (cutAt b78c64 2) (E78c64_2 v8 x0) (L78c64_2 v8 x0)) := by
  intro n
  induction n with
  | zero => exact ⟨fun _ _ h => by simp only [R78c64] at h, fun _ _ _ h => by simp only [R78c64_2] at h⟩
  | succ n ih =>
  obtain ⟨ih, ih2⟩ := ih
  refine ⟨?_, ?_⟩
  · intro x0 ds h w0 O q
    rw [R78c64] at h
    exact AtV.runN tabOk ext78c64Ok mixed (p78c64_0 x0) trivial (ih2 _ _ _ h w0 O q)

  · intro v8 x0 ds h w0 O q
    rw [R78c64_2] at h
    by_cases b0 : (Decidable.decide (v8 < (↑(List.length x0) : Int))) = true
    · rw [if_pos b0] at h
      obtain ⟨s0, s1, h⟩ := h
      by_cases b1 : (g64_0 (List.getD x0 (Int.toNat v8) 0)) = true
      · rw [if_pos b1] at h
        subst h
        exact AtV.fin Try.func78 tabOk ext78c64Ok mixed (p78c64_1 v8 x0) ⟨b0, s0, s1, trivial, b1, trivial⟩
      · rw [if_neg b1] at h
        replace b1 := Bool.eq_false_iff.2 b1
        obtain ⟨s2, h⟩ := h
        exact AtV.runN tabOk ext78c64Ok mixed (p78c64_2 v8 x0) ⟨b0, s0, s1, trivial, b1, s2, trivial⟩ (ih2 _ _ _ h w0 O q)
    · rw [if_neg b0] at h
      replace b0 := Bool.eq_false_iff.2 b0
      subst h
      exact AtV.fin Try.func78 tabOk ext78c64Ok mixed (p78c64_3 v8 x0) ⟨b0, trivial⟩



def g78c64_0 (x0 : List (Int)) : Int := idx (x0.findIdx? g64_0)
def P78c64 (x0 : List (Int)) : Prop := True

theorem top78c64 (x0 : List (Int)) (hm : x0.length ≤ maxLen) : R78c64 (x0.length + 1 + 1) x0 [⟨.int .i64, g78c64_0 x0⟩] := by
  rw [R78c64]
  have key := loop_find x0 (0 : Int) g64_0 [(⟨.int .i64, -1⟩ : Dyn)] (fun k => [⟨.int .i64, k⟩]) (fun n i ds => R78c64_2 n i x0 ds) (fun n => ?_) (fun n i hi hok ds hr => ?_) (fun n i hi hok => ?_)
  · unfold g78c64_0
    cases h : x0.findIdx? g64_0 <;> rw [h] at key <;> exact key
  · rw [R78c64_2, if_neg (by simp)]
  · rw [R78c64_2, if_pos (by simp; omega)]
    simp only [Int.toNat_natCast]
    refine ⟨by omega, by omega, ?_⟩
    rw [if_neg (by rw [hok]; simp)]
    exact ⟨inR_up hm hi, hr⟩
  · rw [R78c64_2, if_pos (by simp; omega)]
    simp only [Int.toNat_natCast]
    refine ⟨by omega, by omega, ?_⟩
    rw [if_pos hok] <;> trivial

def S78c64 : Am.Spec := { sig := sig78c64, pre := fun ⟨x0, _⟩ => P78c64 x0, res := fun ⟨x0, _⟩ => [⟨Ty.int .i64, g78c64_0 x0⟩] }
theorem con78c64 : Contract Try.prog 78 S78c64 := contract_of Try.func78 hb78c64 (Nat.le_of_ble_eq_true (by kernel_rfl)) (fun ⟨x0, _⟩ h hwf w0 O q =>
  (snd78c64 _).1 x0 _ (top78c64 x0 hwf.1.1) w0 O q)

theorem any78c64 (x0 : List (Int)) : decide (g78c64_0 x0 ≥ 0) = x0.any g64_0 := by
  have := findIdx_any g64_0 x0
  unfold g78c64_0
  cases h : x0.any g64_0 with
  | true => rw [h] at this; simpa using this
  | false => rw [h] at this; simpa using this

end Go.Proofs.Ytncnaaoifbhkjaa

/- Function 63 (slices.ContainsFunc[[]byte,byte]): its runs between cut points. Written by a program of this repo (gen). -/
set_option linter.unusedVariables false
set_option linter.unusedSimpArgs false
set_option maxRecDepth 100000
namespace Go.Proofs.Ytncnaaoifbhkjaa
open Go Go.Am Go.Proofs
def ext63c64 : Ext := [(78, S78c64), (64, S64)]
theorem call63c64_78 : Callable Try.prog 78 := ⟨Try.f78, Try.func78, by kernel_rfl, by kernel_rfl⟩
theorem call63c64_64 : Callable Try.prog 64 := ⟨Try.f64, Try.func64, by kernel_rfl, by kernel_rfl⟩
theorem ext63c64Ok : ExtOk Try.prog ext63c64 := ⟨⟨call63c64_78, con78c64⟩, ⟨call63c64_64, con64⟩, trivial⟩
/-! Function 63c64. -/
noncomputable def b63c64 : Code := bodyOf Try.f63
theorem hb63c64 : Try.f63.body = some b63c64 := by kernel_rfl
def sig63c64 : List AT := [AT.v (Ty.sl (Ty.int IntKind.u8)), AT.fn 64 []]
def tys63c64 : List Ty := [Ty.bool]
def P63c64 (x0 : List Int) : Prop := True
def g63c64_0 (x0 : List Int) : Bool := Decidable.decide (g78c64_0 x0 ≥ 0)
theorem p63c64_0 (x0 : List Int) : runF tab ext63c64 false 9 [] 2000 [] tys63c64 Try.f63.results [] [.code b63c64] (entE 0 0 sig63c64 (x0, (), ())) (entL sig63c64 (x0, (), ())) = some ([Dyn.mk Ty.bool (Decidable.decide (g78c64_0 x0 ≥ 0))], [], [True]) := by kernel_rfl
theorem at63c64 (x0 : List Int) (h : P63c64 x0) (w0 : World) (O : List Nat) (q : Nat → Value) : AtV Try.prog 63 (PostR [⟨Ty.bool, g63c64_0 x0⟩] [] [] q w0 O) 9 w0 O q [] [.code b63c64] (entE 0 0 sig63c64 (x0, (), ())) (entL sig63c64 (x0, (), ())) := by
  unfold P63c64 at h
  unfold g63c64_0
  exact AtV.fin Try.func63 tabOk ext63c64Ok mixed (p63c64_0 x0) ⟨trivial, trivial⟩

def S63c64 : Am.Spec := { sig := sig63c64, pre := fun ⟨x0, _⟩ => P63c64 x0, res := fun ⟨x0, _⟩ => [⟨Ty.bool, g63c64_0 x0⟩] }
theorem con63c64 : Contract Try.prog 63 S63c64 := contract_of Try.func63 hb63c64 (Nat.le_of_ble_eq_true (by kernel_rfl)) (fun ⟨x0, _⟩ h _ w0 O q => at63c64 x0 h w0 O q)


end Go.Proofs.Ytncnaaoifbhkjaa

/- Function 54 (impl.isReportLine): its runs between cut points. Written by a program of this repo (gen). -/
set_option linter.unusedVariables false
set_option linter.unusedSimpArgs false
set_option maxRecDepth 100000
namespace Go.Proofs.Ytncnaaoifbhkjaa
open Go Go.Am Go.Proofs
def ext54 : Ext := [(63, S63c64)]
theorem call54_63 : Callable Try.prog 63 := ⟨Try.f63, Try.func63, by kernel_rfl, by kernel_rfl⟩
theorem ext54Ok : ExtOk Try.prog ext54 := ⟨⟨call54_63, con63c64⟩, trivial⟩
/-! Function 54. -/
noncomputable def b54 : Code := bodyOf Try.f54
theorem hb54 : Try.f54.body = some b54 := by kernel_rfl
def sig54 : List AT := [AT.v (Ty.str)]
def tys54 : List Ty := [Ty.bool]
def P54 (x0 : ByteArray) : Prop := True
def g54_0 (x0 : ByteArray) : Bool := (if (Decidable.decide ((↑(ByteArray.size x0) : Int) ≤ 100)) = true then !g63c64_0 (bytesOf x0) else Bool.false)
theorem p54_0 (x0 : ByteArray) : runF tab ext54 false 12 [] 2000 [] tys54 Try.f54.results [true] [.code b54] (entE 0 0 sig54 (x0, ())) (entL sig54 (x0, ())) = some ([Dyn.mk Ty.bool !g63c64_0 (bytesOf x0)], [], [Decidable.decide ((↑(ByteArray.size x0) : Int) ≤ 100) = Bool.true, True]) := by kernel_rfl
theorem p54_1 (x0 : ByteArray) : runF tab ext54 false 12 [] 2000 [] tys54 Try.f54.results [false] [.code b54] (entE 0 0 sig54 (x0, ())) (entL sig54 (x0, ())) = some ([Dyn.mk Ty.bool Bool.false], [], [Decidable.decide ((↑(ByteArray.size x0) : Int) ≤ 100) = Bool.false]) := by kernel_rfl
theorem at54 (x0 : ByteArray) (h : P54 x0) (w0 : World) (O : List Nat) (q : Nat → Value) : AtV Try.prog 54 (PostR [⟨Ty.bool, g54_0 x0⟩] [] [] q w0 O) 12 w0 O q [] [.code b54] (entE 0 0 sig54 (x0, ())) (entL sig54 (x0, ())) := by
  unfold P54 at h
  unfold g54_0
  by_cases b0 : (Decidable.decide ((↑(ByteArray.size x0) : Int) ≤ 100)) = true
  · try simp only [if_pos b0] at h ⊢
    exact AtV.fin Try.func54 tabOk ext54Ok mixed (p54_0 x0) ⟨b0, trivial, trivial⟩
  · try simp only [if_neg b0] at h ⊢
    replace b0 := Bool.eq_false_iff.2 b0
    exact AtV.fin Try.func54 tabOk ext54Ok mixed (p54_1 x0) ⟨b0, trivial⟩

def S54 : Am.Spec := { sig := sig54, pre := fun ⟨x0, _⟩ => P54 x0, res := fun ⟨x0, _⟩ => [⟨Ty.bool, g54_0 x0⟩] }
theorem con54 : Contract Try.prog 54 S54 := contract_of Try.func54 hb54 (Nat.le_of_ble_eq_true (by kernel_rfl)) (fun ⟨x0, _⟩ h _ w0 O q => at54 x0 h w0 O q)


end Go.Proofs.Ytncnaaoifbhkjaa

/- Function 53 (impl.ValidReport$1): its runs between cut points. Written by a program of this repo (gen). -/
set_option linter.unusedVariables false
set_option linter.unusedSimpArgs false
set_option maxRecDepth 100000
namespace Go.Proofs.Ytncnaaoifbhkjaa
open Go Go.Am Go.Proofs
def ext53 : Ext := [(54, S54)]
theorem call53_54 : Callable Try.prog 54 := ⟨Try.f54, Try.func54, by kernel_rfl, by kernel_rfl⟩
theorem ext53Ok : ExtOk Try.prog ext53 := ⟨⟨call53_54, con54⟩, trivial⟩
/-! Function 53. -/
noncomputable def b53 : Code := bodyOf Try.f53
theorem hb53 : Try.f53.body = some b53 := by kernel_rfl
def sig53 : List AT := [AT.v (Ty.str)]
def tys53 : List Ty := [Ty.bool]
def P53 (x0 : ByteArray) : Prop := True
def g53_0 (x0 : ByteArray) : Bool := !g54_0 x0
theorem p53_0 (x0 : ByteArray) : runF tab ext53 false 6 [] 2000 [] tys53 Try.f53.results [] [.code b53] (entE 0 0 sig53 (x0, ())) (entL sig53 (x0, ())) = some ([Dyn.mk Ty.bool !g54_0 x0], [], [True]) := by kernel_rfl
theorem at53 (x0 : ByteArray) (h : P53 x0) (w0 : World) (O : List Nat) (q : Nat → Value) : AtV Try.prog 53 (PostR [⟨Ty.bool, g53_0 x0⟩] [] [] q w0 O) 6 w0 O q [] [.code b53] (entE 0 0 sig53 (x0, ())) (entL sig53 (x0, ())) := by
  unfold P53 at h
  unfold g53_0
  exact AtV.fin Try.func53 tabOk ext53Ok mixed (p53_0 x0) ⟨trivial, trivial⟩

def S53 : Am.Spec := { sig := sig53, pre := fun ⟨x0, _⟩ => P53 x0, res := fun ⟨x0, _⟩ => [⟨Ty.bool, g53_0 x0⟩] }
theorem con53 : Contract Try.prog 53 S53 := contract_of Try.func53 hb53 (Nat.le_of_ble_eq_true (by kernel_rfl)) (fun ⟨x0, _⟩ h _ w0 O q => at53 x0 h w0 O q)


end Go.Proofs.Ytncnaaoifbhkjaa

/- Function 62 (slices.IndexFunc[[]string,string]): its runs between cut points. Written by a program of this repo (gen). -/
set_option linter.unusedVariables false
set_option linter.unusedSimpArgs false
set_option maxRecDepth 100000
namespace Go.Proofs.Ytncnaaoifbhkjaa
open Go Go.Am Go.Proofs
def ext62c53 : Ext := [(53, S53)]
theorem call62c53_53 : Callable Try.prog 53 := ⟨Try.f53, Try.func53, by kernel_rfl, by kernel_rfl⟩
theorem ext62c53Ok : ExtOk Try.prog ext62c53 := ⟨⟨call62c53_53, con53⟩, trivial⟩
/-! Function 62c53. -/
noncomputable def b62c53 : Code := bodyOf Try.f62
theorem hb62c53 : Try.f62.body = some b62c53 := by kernel_rfl
def sig62c53 : List AT := [AT.v (Ty.sl Ty.str), AT.fn 53 []]
def tys62c53 : List Ty := [Ty.int IntKind.i64]
def E62c53_2 (v8 : Int) (x0 : List ByteArray) : Env := [(0, PV.a (Atom.sl Ty.str x0)), (1, PV.fn 53 []), (7, PV.a (Atom.val (Value.int IntKind.i64 (↑(List.length x0) : Int)))), (8, PV.a (Atom.val (Value.int IntKind.i64 v8)))]
def L62c53_2 (v8 : Int) (x0 : List ByteArray) : Heap := []
mutual
def R62c53 : Nat → List ByteArray → List Dyn → Prop
  | 0, _, _ => False
  | n + 1, x0, ds => (R62c53_2 n (0) (x0) ds)
def R62c53_2 : Nat → Int → List ByteArray → List Dyn → Prop
  | 0, _, _, _ => False
  | n + 1, v8, x0, ds => (if (Decidable.decide (v8 < (↑(List.length x0) : Int))) = true then ((0 ≤ v8) ∧ (v8 < (↑(List.length x0) : Int)) ∧ (if (g53_0 (List.getD x0 (Int.toNat v8) ByteArray.empty)) = true then (ds = [Dyn.mk (Ty.int IntKind.i64) v8]) else ((InR IntKind.i64 (v8 + 1)) ∧ (R62c53_2 n (v8 + 1) (x0) ds)))) else (ds = [Dyn.mk (Ty.int IntKind.i64) (-1)]))
end
theorem p62c53_0 (x0 : List ByteArray) : Am.runN tab ext62c53 false 19 [] 2000 [] [] [0, 1, 7, 8] [] [] [.code b62c53] (entE 0 0 sig62c53 (x0, (), ())) (entL sig62c53 (x0, (), ())) = some (cutAt b62c53 2, E62c53_2 (0) (x0), L62c53_2 (0) (x0), []) := by kernel_rfl
theorem p62c53_1 (v8 : Int) (x0 : List ByteArray) : runF tab ext62c53 false 19 [] 2000 [] tys62c53 Try.f62.results [true, true] (cutAt b62c53 2) (E62c53_2 v8 x0) (L62c53_2 v8 x0) = some ([Dyn.mk (Ty.int IntKind.i64) v8], [], [Decidable.decide (v8 < (↑(List.length x0) : Int)) = Bool.true, 0 ≤ v8, v8 < (↑(List.length x0) : Int), True, g53_0 (List.getD x0 (Int.toNat v8) ByteArray.empty) = Bool.true]) := by kernel_rfl
theorem p62c53_2 (v8 : Int) (x0 : List ByteArray) : Am.runN tab ext62c53 false 19 [] 2000 [] [] [0, 1, 7, 8] [] [true, false] (cutAt b62c53 2) (E62c53_2 v8 x0) (L62c53_2 v8 x0) = some (cutAt b62c53 2, E62c53_2 (v8 + 1) (x0), L62c53_2 (v8 + 1) (x0), [Decidable.decide (v8 < (↑(List.length x0) : Int)) = Bool.true, 0 ≤ v8, v8 < (↑(List.length x0) : Int), True, g53_0 (List.getD x0 (Int.toNat v8) ByteArray.empty) = Bool.false, InR IntKind.i64 (v8 + 1)]) := by kernel_rfl
theorem p62c53_3 (v8 : Int) (x0 : List ByteArray) : runF tab ext62c53 false 19 [] 2000 [] tys62c53 Try.f62.results [false] (cutAt b62c53 2) (E62c53_2 v8 x0) (L62c53_2 v8 x0) = some ([Dyn.mk (Ty.int IntKind.i64) (-1)], [], [Decidable.decide (v8 < (↑(List.length x0) : Int)) = Bool.false]) := by kernel_rfl
theorem snd62c53 : ∀ n, (∀ (x0 : List ByteArray) ds, R62c53 n x0 ds → ∀ w0 O q, AtV Try.prog 62 (PostR ds [] [] q w0 O) 19 w0 O q [] [.code b62c53] (entE 0 0 sig62c53 (x0, (), ())) (entL sig62c53 (x0, (), ()))) ∧ (∀ (v8 : Int) (x0 : List ByteArray) ds, R62c53_2 n v8 x0 ds → ∀ w0 O q, AtV Try.prog 62 (PostR ds [] [] q w0 O) 19 w0 O q [] (cutAt b62c53 2) (E62c53_2 v8 x0) (L62c53_2 v8 x0)) := by
  intro n
  induction n with
  | zero => exact ⟨fun _ _ h => by simp only [R62c53] at h, fun _ _ _ h => by simp only [R62c53_2] at h⟩
  | succ n ih =>
  obtain ⟨ih, ih2⟩ := ih
  refine ⟨?_, ?_⟩
  · intro x0 ds h w0 O q
    rw [R62c53] at h
    exact AtV.runN tabOk ext62c53Ok mixed (p62c53_0 x0) trivial (ih2 _ _ _ h w0 O q)

  · intro v8 x0 ds h w0 O q
    rw [R62c53_2] at h
    by_cases b0 : (Decidable.decide (v8 < (↑(List.length x0) : Int))) = true
    · rw [if_pos b0] at h
      obtain ⟨s0, s1, h⟩ := h
      by_cases b1 : (g53_0 (List.getD x0 (Int.toNat v8) ByteArray.empty)) = true
      · rw [if_pos b1] at h
        subst h
        exact AtV.fin Try.func62 tabOk ext62c53Ok mixed (p62c53_1 v8 x0) ⟨b0, s0, s1, trivial, b1, trivial⟩
      · rw [if_neg b1] at h
        replace b1 := Bool.eq_false_iff.2 b1
        obtain ⟨s2, h⟩ := h
        exact AtV.runN tabOk ext62c53Ok mixed (p62c53_2 v8 x0) ⟨b0, s0, s1, trivial, b1, s2, trivial⟩ (ih2 _ _ _ h w0 O q)
    · rw [if_neg b0] at h
      replace b0 := Bool.eq_false_iff.2 b0
      subst h
      exact AtV.fin Try.func62 tabOk ext62c53Ok mixed (p62c53_3 v8 x0) ⟨b0, trivial⟩



def g62c53_0 (x0 : List (ByteArray)) : Int := idx (x0.findIdx? g53_0)
def P62c53 (x0 : List (ByteArray)) : Prop := True

theorem top62c53 (x0 : List (ByteArray)) (hm : x0.length ≤ maxLen) : R62c53 (x0.length + 1 + 1) x0 [⟨.int .i64, g62c53_0 x0⟩] := by
  rw [R62c53]
  have key := loop_find x0 ByteArray.empty g53_0 [(⟨.int .i64, -1⟩ : Dyn)] (fun k => [⟨.int .i64, k⟩]) (fun n i ds => R62c53_2 n i x0 ds) (fun n => ?_) (fun n i hi hok ds hr => ?_) (fun n i hi hok => ?_)
  · unfold g62c53_0
    cases h : x0.findIdx? g53_0 <;> rw [h] at key <;> exact key
  · rw [R62c53_2, if_neg (by simp)]
  · rw [R62c53_2, if_pos (by simp; omega)]
    simp only [Int.toNat_natCast]
    refine ⟨by omega, by omega, ?_⟩
    rw [if_neg (by rw [hok]; simp)]
    exact ⟨inR_up hm hi, hr⟩
  · rw [R62c53_2, if_pos (by simp; omega)]
    simp only [Int.toNat_natCast]
    refine ⟨by omega, by omega, ?_⟩
    rw [if_pos hok] <;> trivial

def S62c53 : Am.Spec := { sig := sig62c53, pre := fun ⟨x0, _⟩ => P62c53 x0, res := fun ⟨x0, _⟩ => [⟨Ty.int .i64, g62c53_0 x0⟩] }
theorem con62c53 : Contract Try.prog 62 S62c53 := contract_of Try.func62 hb62c53 (Nat.le_of_ble_eq_true (by kernel_rfl)) (fun ⟨x0, _⟩ h hwf w0 O q =>
  (snd62c53 _).1 x0 _ (top62c53 x0 hwf.1.1) w0 O q)

theorem any62c53 (x0 : List (ByteArray)) : decide (g62c53_0 x0 ≥ 0) = x0.any g53_0 := by
  have := findIdx_any g53_0 x0
  unfold g62c53_0
  cases h : x0.any g53_0 with
  | true => rw [h] at this; simpa using this
  | false => rw [h] at this; simpa using this

end Go.Proofs.Ytncnaaoifbhkjaa

/- Function 52 (slices.ContainsFunc[[]string,string]): its runs between cut points. Written by a program of this repo (gen). -/
set_option linter.unusedVariables false
set_option linter.unusedSimpArgs false
set_option maxRecDepth 100000
namespace Go.Proofs.Ytncnaaoifbhkjaa
open Go Go.Am Go.Proofs
def ext52c53 : Ext := [(62, S62c53), (53, S53)]
theorem call52c53_62 : Callable Try.prog 62 := ⟨Try.f62, Try.func62, by kernel_rfl, by kernel_rfl⟩
theorem call52c53_53 : Callable Try.prog 53 := ⟨Try.f53, Try.func53, by kernel_rfl, by kernel_rfl⟩
theorem ext52c53Ok : ExtOk Try.prog ext52c53 := ⟨⟨call52c53_62, con62c53⟩, ⟨call52c53_53, con53⟩, trivial⟩
/-! Function 52c53. -/
noncomputable def b52c53 : Code := bodyOf Try.f52
theorem hb52c53 : Try.f52.body = some b52c53 := by kernel_rfl
def sig52c53 : List AT := [AT.v (Ty.sl Ty.str), AT.fn 53 []]
def tys52c53 : List Ty := [Ty.bool]
def P52c53 (x0 : List ByteArray) : Prop := True
def g52c53_0 (x0 : List ByteArray) : Bool := Decidable.decide (g62c53_0 x0 ≥ 0)
theorem p52c53_0 (x0 : List ByteArray) : runF tab ext52c53 false 9 [] 2000 [] tys52c53 Try.f52.results [] [.code b52c53] (entE 0 0 sig52c53 (x0, (), ())) (entL sig52c53 (x0, (), ())) = some ([Dyn.mk Ty.bool (Decidable.decide (g62c53_0 x0 ≥ 0))], [], [True]) := by kernel_rfl
theorem at52c53 (x0 : List ByteArray) (h : P52c53 x0) (w0 : World) (O : List Nat) (q : Nat → Value) : AtV Try.prog 52 (PostR [⟨Ty.bool, g52c53_0 x0⟩] [] [] q w0 O) 9 w0 O q [] [.code b52c53] (entE 0 0 sig52c53 (x0, (), ())) (entL sig52c53 (x0, (), ())) := by
  unfold P52c53 at h
  unfold g52c53_0
  exact AtV.fin Try.func52 tabOk ext52c53Ok mixed (p52c53_0 x0) ⟨trivial, trivial⟩

def S52c53 : Am.Spec := { sig := sig52c53, pre := fun ⟨x0, _⟩ => P52c53 x0, res := fun ⟨x0, _⟩ => [⟨Ty.bool, g52c53_0 x0⟩] }
theorem con52c53 : Contract Try.prog 52 S52c53 := contract_of Try.func52 hb52c53 (Nat.le_of_ble_eq_true (by kernel_rfl)) (fun ⟨x0, _⟩ h _ w0 O q => at52c53 x0 h w0 O q)


end Go.Proofs.Ytncnaaoifbhkjaa

/- Function 41 (impl.ValidReport): its runs between cut points. Written by a program of this repo (gen). -/
set_option linter.unusedVariables false
set_option linter.unusedSimpArgs false
set_option maxRecDepth 100000
namespace Go.Proofs.Ytncnaaoifbhkjaa
open Go Go.Am Go.Proofs
def ext41 : Ext := [(52, S52c53)]
theorem call41_52 : Callable Try.prog 52 := ⟨Try.f52, Try.func52, by kernel_rfl, by kernel_rfl⟩
theorem ext41Ok : ExtOk Try.prog ext41 := ⟨⟨call41_52, con52c53⟩, trivial⟩
/-! Function 41. -/
noncomputable def b41 : Code := bodyOf Try.f41
theorem hb41 : Try.f41.body = some b41 := by kernel_rfl
def sig41 : List AT := [AT.v (Ty.sl Ty.str)]
def tys41 : List Ty := [Ty.bool]
def P41 (x0 : List ByteArray) : Prop := True
def g41_0 (x0 : List ByteArray) : Bool := (if (Decidable.decide ((↑(List.length x0) : Int) ≤ 200)) = true then !g52c53_0 x0 else Bool.false)
theorem p41_0 (x0 : List ByteArray) : runF tab ext41 false 11 [] 2000 [] tys41 Try.f41.results [true] [.code b41] (entE 0 0 sig41 (x0, ())) (entL sig41 (x0, ())) = some ([Dyn.mk Ty.bool !g52c53_0 x0], [], [Decidable.decide ((↑(List.length x0) : Int) ≤ 200) = Bool.true, True]) := by kernel_rfl
theorem p41_1 (x0 : List ByteArray) : runF tab ext41 false 11 [] 2000 [] tys41 Try.f41.results [false] [.code b41] (entE 0 0 sig41 (x0, ())) (entL sig41 (x0, ())) = some ([Dyn.mk Ty.bool Bool.false], [], [Decidable.decide ((↑(List.length x0) : Int) ≤ 200) = Bool.false]) := by kernel_rfl
theorem at41 (x0 : List ByteArray) (h : P41 x0) (w0 : World) (O : List Nat) (q : Nat → Value) : AtV Try.prog 41 (PostR [⟨Ty.bool, g41_0 x0⟩] [] [] q w0 O) 11 w0 O q [] [.code b41] (entE 0 0 sig41 (x0, ())) (entL sig41 (x0, ())) := by
  unfold P41 at h
  unfold g41_0
  by_cases b0 : (Decidable.decide ((↑(List.length x0) : Int) ≤ 200)) = true
  · try simp only [if_pos b0] at h ⊢
    exact AtV.fin Try.func41 tabOk ext41Ok mixed (p41_0 x0) ⟨b0, trivial, trivial⟩
  · try simp only [if_neg b0] at h ⊢
    replace b0 := Bool.eq_false_iff.2 b0
    exact AtV.fin Try.func41 tabOk ext41Ok mixed (p41_1 x0) ⟨b0, trivial⟩

def S41 : Am.Spec := { sig := sig41, pre := fun ⟨x0, _⟩ => P41 x0, res := fun ⟨x0, _⟩ => [⟨Ty.bool, g41_0 x0⟩] }
theorem con41 : Contract Try.prog 41 S41 := contract_of Try.func41 hb41 (Nat.le_of_ble_eq_true (by kernel_rfl)) (fun ⟨x0, _⟩ h _ w0 O q => at41 x0 h w0 O q)


end Go.Proofs.Ytncnaaoifbhkjaa

/- The contracts of the library that this program uses, laid at this program. Written by a tool of the kit. -/
set_option linter.unusedVariables false
set_option maxRecDepth 100000
namespace Go.Proofs
open Go.Shelf
def Try.lays144_ren : Go.Shelf.Ren := ⟨fun | 144 => 46 | 143 => 59 | 219 => 76 | 217 => 84 | 225 => 85 | 224 => 86 | 267 => 87 | 266 => 89 | 314 => 90 | n => n, fun | 9 => 9 | 4 => 4 | 3 => 3 | 5 => 5 | 46 => 72 | 146 => 101 | 51 => 85 | n => n, fun | 1 => 0 | n => n⟩
theorem Try.lays144 : Go.Proofs.Lays.n144 Try.prog Try.lays144_ren := {
  mixed := by kernel_rfl
  f143 := Try.func59.trans (congrArg some (by kernel_rfl))
  f144 := Try.func46.trans (congrArg some (by kernel_rfl))
  f217 := Try.func84.trans (congrArg some (by kernel_rfl))
  f219 := Try.func76.trans (congrArg some (by kernel_rfl))
  f224 := Try.func86.trans (congrArg some (by kernel_rfl))
  f225 := Try.func85.trans (congrArg some (by kernel_rfl))
  f266 := Try.func89.trans (congrArg some (by kernel_rfl))
  f267 := Try.func87.trans (congrArg some (by kernel_rfl))
  f314 := Try.func90.trans (congrArg some (by kernel_rfl))
  t3 := Try.underlying3
  a3 := Try.isAgg3
  z3 := Try.sizeOf3
  v3 := Try.zeroValue3
  t4 := Try.underlying4
  a4 := Try.isAgg4
  z4 := Try.sizeOf4
  v4 := Try.zeroValue4
  t5 := Try.underlying5
  a5 := Try.isAgg5
  z5 := Try.sizeOf5
  v5 := Try.zeroValue5
  t9 := Try.underlying9
  a9 := Try.isAgg9
  z9 := Try.sizeOf9
  v9 := Try.zeroValue9
  t46 := Try.underlying72
  a46 := Try.isAgg72
  z46 := Try.sizeOf72
  v46 := Try.zeroValue72
  t51 := Try.underlying85
  a51 := Try.isAgg85
  z51 := Try.sizeOf85
  v51 := Try.zeroValue85
  t146 := Try.underlying101
  a146 := Try.isAgg101
  z146 := Try.sizeOf101
  v146 := Try.zeroValue101
  g1 := by kernel_rfl }
open Go.RowKit Go.Lib in theorem Try.strings_Contains (s sub : ByteArray) (m : Int) (w : World) (hs : s.size < 4294967281) (hm : w.cell? ⟨0, 0, none⟩ = some (.int .i64 m)) :
    Calls Try.prog 46 #[.string s, .string sub] w fun e w' => e = .returned (.bool (Lib.contains s.data.toList sub.data.toList)) ∧ w' = w := Any.strings_Contains Try.lays144 s sub m w hs hm
def Try.lays190_ren : Go.Shelf.Ren := ⟨fun | 190 => 43 | 125 => 56 | 258 => 55 | 128 => 74 | 129 => 75 | 302 => 65 | 303 => 66 | 304 => 67 | 305 => 68 | 306 => 69 | 307 => 70 | 308 => 71 | 309 => 72 | 310 => 73 | 333 => 79 | 329 => 80 | 330 => 81 | 334 => 82 | 335 => 83 | 336 => 60 | 344 => 88 | n => n, fun | 31 => 31 | 9 => 9 | 3 => 3 | 46 => 72 | 0 => 0 | 51 => 85 | 53 => 87 | 4 => 4 | 183 => 79 | 182 => 78 | 131 => 58 | 5 => 5 | 218 => 90 | 222 => 94 | 228 => 98 | 229 => 99 | n => n, fun | n => n⟩
theorem Try.lays190 : Go.Proofs.Lays.n190 Try.prog Try.lays190_ren := {
  mixed := by kernel_rfl
  f125 := Try.func56.trans (congrArg some (by kernel_rfl))
  f128 := Try.func74.trans (congrArg some (by kernel_rfl))
  f129 := Try.func75.trans (congrArg some (by kernel_rfl))
  f190 := Try.func43.trans (congrArg some (by kernel_rfl))
  f258 := Try.func55.trans (congrArg some (by kernel_rfl))
  f302 := Try.func65.trans (congrArg some (by kernel_rfl))
  f303 := Try.func66.trans (congrArg some (by kernel_rfl))
  f304 := Try.func67.trans (congrArg some (by kernel_rfl))
  f305 := Try.func68.trans (congrArg some (by kernel_rfl))
  f306 := Try.func69.trans (congrArg some (by kernel_rfl))
  f307 := Try.func70.trans (congrArg some (by kernel_rfl))
  f308 := Try.func71.trans (congrArg some (by kernel_rfl))
  f309 := Try.func72.trans (congrArg some (by kernel_rfl))
  f310 := Try.func73.trans (congrArg some (by kernel_rfl))
  f329 := Try.func80.trans (congrArg some (by kernel_rfl))
  f330 := Try.func81.trans (congrArg some (by kernel_rfl))
  f333 := Try.func79.trans (congrArg some (by kernel_rfl))
  f334 := Try.func82.trans (congrArg some (by kernel_rfl))
  f335 := Try.func83.trans (congrArg some (by kernel_rfl))
  f336 := Try.func60.trans (congrArg some (by kernel_rfl))
  f344 := Try.func88.trans (congrArg some (by kernel_rfl))
  t0 := Try.underlying0
  a0 := Try.isAgg0
  z0 := Try.sizeOf0
  v0 := Try.zeroValue0
  t3 := Try.underlying3
  a3 := Try.isAgg3
  z3 := Try.sizeOf3
  v3 := Try.zeroValue3
  t4 := Try.underlying4
  a4 := Try.isAgg4
  z4 := Try.sizeOf4
  v4 := Try.zeroValue4
  t5 := Try.underlying5
  a5 := Try.isAgg5
  z5 := Try.sizeOf5
  v5 := Try.zeroValue5
  t9 := Try.underlying9
  a9 := Try.isAgg9
  z9 := Try.sizeOf9
  v9 := Try.zeroValue9
  t31 := Try.underlying31
  a31 := Try.isAgg31
  z31 := Try.sizeOf31
  v31 := Try.zeroValue31
  t46 := Try.underlying72
  a46 := Try.isAgg72
  z46 := Try.sizeOf72
  v46 := Try.zeroValue72
  t51 := Try.underlying85
  a51 := Try.isAgg85
  z51 := Try.sizeOf85
  v51 := Try.zeroValue85
  t53 := Try.underlying87
  a53 := Try.isAgg87
  z53 := Try.sizeOf87
  v53 := Try.zeroValue87
  t131 := Try.underlying58
  a131 := Try.isAgg58
  z131 := Try.sizeOf58
  v131 := Try.zeroValue58
  t182 := Try.underlying78
  a182 := Try.isAgg78
  z182 := Try.sizeOf78
  v182 := Try.zeroValue78
  t183 := Try.underlying79
  a183 := Try.isAgg79
  z183 := Try.sizeOf79
  v183 := Try.zeroValue79
  t218 := Try.underlying90
  a218 := Try.isAgg90
  z218 := Try.sizeOf90
  v218 := Try.zeroValue90
  t222 := Try.underlying94
  a222 := Try.isAgg94
  z222 := Try.sizeOf94
  v222 := Try.zeroValue94
  t228 := Try.underlying98
  a228 := Try.isAgg98
  z228 := Try.sizeOf98
  v228 := Try.zeroValue98
  t229 := Try.underlying99
  a229 := Try.isAgg99
  z229 := Try.sizeOf99
  v229 := Try.zeroValue99 }
open Go.Sort Go.RowKit in theorem Try.slices_Sort_string (blk off cap : Nat) (ss : List (List UInt8)) (w : World) (hH : Holds encStr w blk off ss.toArray) (hblk : blk < w.heap.size) (hsz : ss.length < 4611686018427387904) :
    Calls Try.prog 43 #[.slice (some ⟨blk, off, none⟩) ss.length cap] w fun e w' =>
      e = .returned (.tuple #[]) ∧ ∃ n os, w' = grow (putRow encStr (Sort.ahead w n) blk off (ss.mergeSort fun x y => decide (x ≤ y)).toArray) os := Any.slices_Sort_string Try.lays190 blk off cap ss w hH hblk hsz
def Try.laysNm216_ren : Go.Shelf.Ren := ⟨fun | 16 => 42 | n => n, fun | 24 => 31 | 9 => 9 | 4 => 4 | n => n, fun | n => n⟩
theorem Try.laysNm216 : Go.Proofs.Lays2.n16 Try.prog Try.laysNm216_ren := {
  mixed := by kernel_rfl
  f16 := Try.func42.trans (congrArg some (by kernel_rfl))
  t4 := Try.underlying4
  a4 := Try.isAgg4
  z4 := Try.sizeOf4
  v4 := Try.zeroValue4
  t9 := Try.underlying9
  a9 := Try.isAgg9
  z9 := Try.sizeOf9
  v9 := Try.zeroValue9
  t24 := Try.underlying31
  a24 := Try.isAgg31
  z24 := Try.sizeOf31
  v24 := Try.zeroValue31
  i9 := by kernel_rfl }
open Go.RowKit Go.Lib in theorem Try.slices_Clone_string (b off n c : Nat) (zs : List ByteArray) (w : World) (hz : n ≤ zs.length) (hbig : n * 16 ≤ 140737488355328) (hc : ∀ j, j < zs.length → w.cell? ⟨b, off + j, none⟩ = some (.string (zs.getD j ByteArray.empty))) :
    Calls Try.prog 42 #[.slice (some ⟨b, off, none⟩) n c] w fun e w' => ∃ v', e = .returned v' ∧ w'.ownsRow w.heap.size 9 1 v' n ((zs.take n).map (Value.string)) ∧ v' ≠ .slice none 0 0 ∧ Below w.heap.size w w' := Any.slices_Clone_string Try.laysNm216 b off n c zs w hz hbig hc
open Go.RowKit Go.Lib in theorem Try.slices_Clone_string_nil (n c : Nat) (w : World) :
    Calls Try.prog 42 #[.slice none n c] w fun e w' => e = .returned (.slice none 0 0) ∧ w' = w := Any.slices_Clone_string_nil Try.laysNm216 n c w
open Go.RowKit Go.Lib in theorem Try.slices_Clone_string_zero (a : Addr) (c : Nat) (w : World) :
    Calls Try.prog 42 #[.slice (some a) 0 c] w fun e w' => ∃ v', e = .returned v' ∧ w'.ownsRow w.heap.size 9 1 v' 0 [] ∧ v' ≠ .slice none 0 0 ∧ Below w.heap.size w w' := Any.slices_Clone_string_zero Try.laysNm216 a c w
open Go.RowKit Go.Sort in theorem Try.slices_Sort_string_none (p : Option Addr) (cap : Nat) (w : World) :
    Calls Try.prog 43 #[.slice p 0 cap] w fun e w' => e = .returned (.tuple #[]) ∧ w' = w := Any.slices_Sort_string_none Try.lays190 p cap w
end Go.Proofs

/- Function 42 (slices.Clone[[]string,string]): its contract, off what is known of the library. -/
set_option linter.unusedVariables false
set_option linter.unusedSimpArgs false
set_option maxRecDepth 100000
namespace Go.Proofs.Ytncnaaoifbhkjaa
open Go Go.Am Go.Proofs

def sig42 : List AT := [AT.v (Ty.sl Ty.str)]
def g42_0 (x0 : List ByteArray) : List ByteArray := x0
def P42 (x0 : List ByteArray) : Prop := x0.length ≤ 1048576
def S42 : Am.Spec := { sig := sig42, pre := fun ⟨x0, _⟩ => P42 x0, res := fun ⟨x0, _⟩ => [⟨Ty.sl Ty.str, g42_0 x0⟩] }

theorem strs_flat42 : ∀ xs : List ByteArray, (xs.map (fcells .str)).flatten = xs.map Value.string
  | [] => rfl
  | x :: r => by
    rw [List.map_cons, List.flatten_cons, strs_flat42 r]
    rfl

theorem con42 : Contract Try.prog 42 S42 := by
  rintro w ⟨x0, u⟩ vs bss hgo hp ⟨v, s, b, bs, rfl, rfl, ⟨rfl, ho⟩, rfl, rfl⟩ hn
  have hp : x0.length ≤ 1048576 := hp
  have hm : x0.length ≤ maxLen := by unfold maxLen; omega
  have hs : ∀ x ∈ x0, Wf .str x := (wf_slAt (fun _ _ => RepC.wf) ho).2
  have hfin : ∀ (v' : Value) (w' : World), w'.ownsRow w.heap.size 9 1 v' x0.length (x0.map Value.string) → Go.RowKit.Below w.heap.size w w' →
      ∃ rs ubs rbs, Ending.returned v' = .returned (packV rs) ∧ Kept ([[]] : List (List Nat)).flatten w w' ∧ ResRep w' [⟨Ty.sl Ty.str, x0⟩] rs rbs ∧ UpdRep w' [] (ownVals sig42 [v]) ubs ∧ (ubs.flatten ++ rbs.flatten).Nodup ∧ ∀ b ∈ ubs.flatten ++ rbs.flatten, ¬ Am.Good w ([[]] : List (List Nat)).flatten b := fun v' w' h1 h2 => by
    have e := strs_flat42 x0
    obtain ⟨bs, g1, g2, g3⟩ := own_of_row (t := .str) rfl hs hm (by rw [e]; exact h1)
    refine ⟨[v'], [], [bs], rfl, Kept.of_below h2, ⟨_, _, _, _, _, rfl, rfl, g1, rfl, rfl, rfl⟩, ⟨rfl, rfl⟩, by simpa using g2, fun b hb hg => ?_⟩
    simp at hb
    have := g3 b hb
    have := hg.1
    omega
  obtain ⟨css, bss, hrow, hflat, hcase⟩ := SlAt.row ho
  rcases hcase with ⟨ad, rfl, rfl⟩ | ⟨b', off, cap, rfl, hG, hcells⟩
  · cases ad with
    | none =>
      refine (Try.slices_Clone_string_nil 0 0 w).mono ?_
      rintro e w' ⟨rfl, rfl⟩
      exact hfin _ _ ⟨rfl, .inl ⟨rfl, rfl⟩⟩ (Go.RowKit.Below.refl _ _)
    | some a =>
      refine (Try.slices_Clone_string_zero a 0 w).mono ?_
      rintro e w' ⟨v', rfl, h1, _, h2⟩
      exact hfin _ _ h1 h2
  · have hc : ∀ j, j < x0.length → w.cell? ⟨b', off + j, none⟩ = some (.string (x0.getD j ByteArray.empty)) := fun j hj => by
      have e1 := (strs_cells (w := w) (hrow.mono fun y c b _ h => ⟨h.1.1, h.1.2, h.2⟩)).1
      refine hcells j _ ?_
      rw [e1, List.getElem?_map, List.getElem?_eq_getElem hj, getD_lt _ _ _ hj]
      rfl
    refine (Try.slices_Clone_string b' off x0.length cap x0 w (Nat.le_refl _) (by omega) hc).mono ?_
    rintro e w' ⟨v', rfl, h1, _, h2⟩
    rw [List.take_of_length_le (Nat.le_refl _)] at h1
    exact hfin _ _ h1 h2

end Go.Proofs.Ytncnaaoifbhkjaa

/- Function 43 (slices.Sort[[]string,string]): its contract, off what is known of the library. -/
set_option linter.unusedVariables false
set_option linter.unusedSimpArgs false
set_option maxRecDepth 100000
namespace Go.Proofs.Ytncnaaoifbhkjaa
open Go Go.Am Go.Proofs

def sig43 : List AT := [AT.own Ty.str]
/-- The strings in order. -/
def u43_0 (x0 : List ByteArray) : List ByteArray := sortB x0
def P43 (x0 : List ByteArray) : Prop := x0.length ≤ 1048576
def S43 : Am.Spec := { sig := sig43, pre := fun ⟨x0, _⟩ => P43 x0, upd := fun ⟨x0, _⟩ => [some ⟨Ty.str, u43_0 x0⟩], res := fun _ => [] }

theorem u43_perm (x0 : List ByteArray) : (u43_0 x0).Perm x0 := sortB_perm x0

theorem u43_bls (x0 : List ByteArray) : bls (u43_0 x0) = (bls x0).mergeSort fun x y => decide (x ≤ y) := by
  unfold u43_0 sortB bls sbl
  rw [List.map_map]
  conv => rhs; rw [← List.map_id (List.mergeSort _ _)]
  rfl

theorem con43 : Contract Try.prog 43 S43 := by
  rintro w ⟨x0, u⟩ vs bss hgo hp ⟨v, s, b, bs, rfl, rfl, ho, rfl, rfl⟩ hn
  have hp : x0.length ≤ 1048576 := hp
  simp only [List.flatten_cons, List.flatten_nil, List.append_nil] at hn ⊢
  obtain ⟨hs, hcase⟩ := strs_own ho
  have hlen : (u43_0 x0).length = x0.length := (u43_perm x0).length_eq
  have hs' : ∀ y ∈ u43_0 x0, y.size ≤ maxLen := fun y hy => hs y ((u43_perm x0).mem_iff.1 hy)
  have hm : x0.length ≤ maxLen := by unfold maxLen; omega
  rcases hcase with ⟨ad, rfl, rfl, rfl⟩ | ⟨b', off, cap, cur, ty, fz, rfl, h2, h3, h4, h5, h6, rfl, h8⟩
  · refine (Try.slices_Sort_string_none ad 0 w).mono ?_
    rintro e w' ⟨rfl, rfl⟩
    refine ⟨[], [[]], [], rfl, Kept.refl _ _, ⟨rfl, rfl⟩, ⟨_, _, _, _, rfl, rfl, ?_, rfl, rfl⟩, by simp, by simp⟩
    exact ⟨_, rfl, by simp [u43_0, sortB, bls, sbl], .inl ⟨_, rfl, by simp [u43_0, sortB, bls, sbl], rfl⟩⟩
  · have hb : b' < w.heap.size := by
      rcases Nat.lt_or_ge b' w.heap.size with h | h
      · exact h
      · rw [Array.getElem?_eq_none h] at h5; cases h5
    have hbl : (bls x0).length = x0.length := by simp [bls]
    have := Try.slices_Sort_string b' off cap (bls x0) w (strs_holds h5 h6 h8) hb (by rw [hbl]; omega)
    rw [hbl] at this
    refine this.mono ?_
    rintro e w' ⟨rfl, n, os, hw⟩
    rw [← u43_bls] at hw
    obtain ⟨g1, g2⟩ := strs_turned hlen hm hs' h2 h3 h4 h5 h6 hw
    refine ⟨[], [[b']], [], rfl, g2, ⟨rfl, rfl⟩, ⟨_, _, _, _, rfl, rfl, g1, rfl, rfl⟩, by simp, fun b hb hg => ?_⟩
    simp at hb
    exact hg.2 (by simp [hb])

end Go.Proofs.Ytncnaaoifbhkjaa

/- Function 33 (impl.SortLines): its runs between cut points. Written by a program of this repo (gen). -/
set_option linter.unusedVariables false
set_option linter.unusedSimpArgs false
set_option maxRecDepth 100000
namespace Go.Proofs.Ytncnaaoifbhkjaa
open Go Go.Am Go.Proofs
def ext33 : Ext := [(41, S41), (42, S42), (43, S43)]
theorem call33_41 : Callable Try.prog 41 := ⟨Try.f41, Try.func41, by kernel_rfl, by kernel_rfl⟩
theorem call33_42 : Callable Try.prog 42 := ⟨Try.f42, Try.func42, by kernel_rfl, by kernel_rfl⟩
theorem call33_43 : Callable Try.prog 43 := ⟨Try.f43, Try.func43, by kernel_rfl, by kernel_rfl⟩
theorem ext33Ok : ExtOk Try.prog ext33 := ⟨⟨call33_41, con41⟩, ⟨call33_42, con42⟩, ⟨call33_43, con43⟩, trivial⟩
/-! Function 33. -/
noncomputable def b33 : Code := bodyOf Try.f33
theorem hb33 : Try.f33.body = some b33 := by kernel_rfl
def sig33 : List AT := [AT.v (Ty.sl Ty.str)]
def tys33 : List Ty := [Ty.sl Ty.str, Ty.int IntKind.i64]
def P33 (x0 : List ByteArray) : Prop := (if (!g41_0 x0) = true then True else ((P42 x0) ∧ ((P43 (g42_0 x0)) ∧ (List.length (u43_0 (g42_0 x0)) = List.length (g42_0 x0)) ∧ True)))
def g33_0 (x0 : List ByteArray) : List ByteArray := (if (!g41_0 x0) = true then [] else u43_0 (g42_0 x0))
def g33_1 (x0 : List ByteArray) : Int := (if (!g41_0 x0) = true then 1 else 0)
theorem p33_0 (x0 : List ByteArray) : runF tab ext33 false 13 [] 2000 [] tys33 Try.f33.results [true] [.code b33] (entE 0 0 sig33 (x0, ())) (entL sig33 (x0, ())) = some ([Dyn.mk (Ty.sl Ty.str) [], Dyn.mk (Ty.int IntKind.i64) 1], [], [True, (!g41_0 x0) = Bool.true]) := by kernel_rfl
theorem p33_1 (x0 : List ByteArray) : runF tab ext33 false 13 [] 2000 [] tys33 Try.f33.results [false] [.code b33] (entE 0 0 sig33 (x0, ())) (entL sig33 (x0, ())) = some ([Dyn.mk (Ty.sl Ty.str) (u43_0 (g42_0 x0)), Dyn.mk (Ty.int IntKind.i64) 0], [], [True, (!g41_0 x0) = Bool.false, P42 x0, P43 (g42_0 x0), List.length (u43_0 (g42_0 x0)) = List.length (g42_0 x0)]) := by kernel_rfl
theorem at33 (x0 : List ByteArray) (h : P33 x0) (w0 : World) (O : List Nat) (q : Nat → Value) : AtV Try.prog 33 (PostR [⟨Ty.sl Ty.str, g33_0 x0⟩, ⟨Ty.int IntKind.i64, g33_1 x0⟩] [] [] q w0 O) 13 w0 O q [] [.code b33] (entE 0 0 sig33 (x0, ())) (entL sig33 (x0, ())) := by
  unfold P33 at h
  unfold g33_0 g33_1
  by_cases b0 : (!g41_0 x0) = true
  · try simp only [if_pos b0] at h ⊢
    exact AtV.fin Try.func33 tabOk ext33Ok mixed (p33_0 x0) ⟨trivial, b0, trivial⟩
  · try simp only [if_neg b0] at h ⊢
    replace b0 := Bool.eq_false_iff.2 b0
    obtain ⟨s0, h⟩ := h
    obtain ⟨s1, s2, h⟩ := h
    exact AtV.fin Try.func33 tabOk ext33Ok mixed (p33_1 x0) ⟨trivial, b0, s0, s1, s2, trivial⟩

def S33 : Am.Spec := { sig := sig33, pre := fun ⟨x0, _⟩ => P33 x0, res := fun ⟨x0, _⟩ => [⟨Ty.sl Ty.str, g33_0 x0⟩, ⟨Ty.int IntKind.i64, g33_1 x0⟩] }
theorem con33 : Contract Try.prog 33 S33 := contract_of Try.func33 hb33 (Nat.le_of_ble_eq_true (by kernel_rfl)) (fun ⟨x0, _⟩ h _ w0 O q => at33 x0 h w0 O q)


end Go.Proofs.Ytncnaaoifbhkjaa

/- Function 15 (impl.CountLines): its runs between cut points. Written by a program of this repo (gen). -/
set_option linter.unusedVariables false
set_option linter.unusedSimpArgs false
set_option maxRecDepth 100000
namespace Go.Proofs.Ytncnaaoifbhkjaa
open Go Go.Am Go.Proofs
def ext15 : Ext := [(33, S33)]
theorem call15_33 : Callable Try.prog 33 := ⟨Try.f33, Try.func33, by kernel_rfl, by kernel_rfl⟩
theorem ext15Ok : ExtOk Try.prog ext15 := ⟨⟨call15_33, con33⟩, trivial⟩
/-! Function 15. -/
noncomputable def b15 : Code := bodyOf Try.f15
theorem hb15 : Try.f15.body = some b15 := by kernel_rfl
def sig15 : List AT := [AT.v (Ty.sl Ty.str)]
def tys15 : List Ty := [Ty.sl Ty.str, Ty.sl (Ty.int IntKind.i64), Ty.int IntKind.i64]
def E15_7 (v21 : Int) (h1 : List ByteArray) (h2 : List Int) (x0 : List ByteArray) : Env := [(5, PV.a (Atom.osl 0 Option.none)), (7, PV.a (Atom.osl 1 Option.none)), (8, PV.a (Atom.osl 2 Option.none)), (19, PV.a (Atom.osl 0 Option.none)), (20, PV.a (Atom.val (Value.int IntKind.i64 (↑(List.length (g33_0 x0)) : Int)))), (21, PV.a (Atom.val (Value.int IntKind.i64 v21)))]
def L15_7 (v21 : Int) (h1 : List ByteArray) (h2 : List Int) (x0 : List ByteArray) : Heap := [Option.some (Arr.mk Ty.str (g33_0 x0) Bool.false), Option.some (Arr.mk Ty.str h1 Bool.false), Option.some (Arr.mk (Ty.int IntKind.i64) h2 Bool.false)]
mutual
def R15 : Nat → List ByteArray → List Dyn → Prop
  | 0, _, _ => False
  | n + 1, x0, ds => ((P33 x0) ∧ (if (g33_1 x0 != 0) = true then (ds = [Dyn.mk (Ty.sl Ty.str) [], Dyn.mk (Ty.sl (Ty.int IntKind.i64)) [], Dyn.mk (Ty.int IntKind.i64) (g33_1 x0)]) else (R15_7 n (0) ([]) ([]) (x0) ds)))
def R15_7 : Nat → Int → List ByteArray → List Int → List ByteArray → List Dyn → Prop
  | 0, _, _, _, _, _ => False
  | n + 1, v21, h1, h2, x0, ds => (if (Decidable.decide (v21 < (↑(List.length (g33_0 x0)) : Int))) = true then ((0 ≤ v21) ∧ (v21 < (↑(List.length (g33_0 x0)) : Int)) ∧ (if (v21 == 0) = true then (((List.length h1 + 1) * 16 ≤ 140737488355328) ∧ (((List.length h2 + 1) * 8 ≤ 140737488355328) ∧ ((InR IntKind.i64 ((↑(List.length (h2 ++ [0])) : Int) - 1)) ∧ ((0 ≤ (↑(List.length (h2 ++ [0])) : Int) - 1) ∧ ((↑(List.length (h2 ++ [0])) : Int) - 1 < (↑(List.length (h2 ++ [0])) : Int)) ∧ ((InR IntKind.i64 (List.getD (h2 ++ [0]) (Int.toNat ((↑(List.length (h2 ++ [0])) : Int) - 1)) 0 + 1)) ∧ ((0 ≤ (↑(List.length (h2 ++ [0])) : Int) - 1) ∧ ((↑(List.length (h2 ++ [0])) : Int) - 1 < (↑(List.length (h2 ++ [0])) : Int)) ∧ ((InR IntKind.i64 (v21 + 1)) ∧ (R15_7 n (v21 + 1) (h1 ++ [List.getD (g33_0 x0) (Int.toNat v21) ByteArray.empty]) (List.set (h2 ++ [0]) (Int.toNat ((↑(List.length (h2 ++ [0])) : Int) - 1)) (List.getD (h2 ++ [0]) (Int.toNat ((↑(List.length (h2 ++ [0])) : Int) - 1)) 0 + 1)) (x0) ds)))))))) else ((InR IntKind.i64 (v21 - 1)) ∧ ((0 ≤ v21 - 1) ∧ (v21 - 1 < (↑(List.length (g33_0 x0)) : Int)) ∧ (if (!ByteArray.toList (List.getD (g33_0 x0) (Int.toNat v21) ByteArray.empty) == ByteArray.toList (List.getD (g33_0 x0) (Int.toNat (v21 - 1)) ByteArray.empty)) = true then (((List.length h1 + 1) * 16 ≤ 140737488355328) ∧ (((List.length h2 + 1) * 8 ≤ 140737488355328) ∧ ((InR IntKind.i64 ((↑(List.length (h2 ++ [0])) : Int) - 1)) ∧ ((0 ≤ (↑(List.length (h2 ++ [0])) : Int) - 1) ∧ ((↑(List.length (h2 ++ [0])) : Int) - 1 < (↑(List.length (h2 ++ [0])) : Int)) ∧ ((InR IntKind.i64 (List.getD (h2 ++ [0]) (Int.toNat ((↑(List.length (h2 ++ [0])) : Int) - 1)) 0 + 1)) ∧ ((0 ≤ (↑(List.length (h2 ++ [0])) : Int) - 1) ∧ ((↑(List.length (h2 ++ [0])) : Int) - 1 < (↑(List.length (h2 ++ [0])) : Int)) ∧ ((InR IntKind.i64 (v21 + 1)) ∧ (R15_7 n (v21 + 1) (h1 ++ [List.getD (g33_0 x0) (Int.toNat v21) ByteArray.empty]) (List.set (h2 ++ [0]) (Int.toNat ((↑(List.length (h2 ++ [0])) : Int) - 1)) (List.getD (h2 ++ [0]) (Int.toNat ((↑(List.length (h2 ++ [0])) : Int) - 1)) 0 + 1)) (x0) ds)))))))) else ((InR IntKind.i64 ((↑(List.length h2) : Int) - 1)) ∧ ((0 ≤ (↑(List.length h2) : Int) - 1) ∧ ((↑(List.length h2) : Int) - 1 < (↑(List.length h2) : Int)) ∧ ((InR IntKind.i64 (List.getD h2 (Int.toNat ((↑(List.length h2) : Int) - 1)) 0 + 1)) ∧ ((0 ≤ (↑(List.length h2) : Int) - 1) ∧ ((↑(List.length h2) : Int) - 1 < (↑(List.length h2) : Int)) ∧ ((InR IntKind.i64 (v21 + 1)) ∧ (R15_7 n (v21 + 1) (h1) (List.set h2 (Int.toNat ((↑(List.length h2) : Int) - 1)) (List.getD h2 (Int.toNat ((↑(List.length h2) : Int) - 1)) 0 + 1)) (x0) ds))))))))))) else (ds = [Dyn.mk (Ty.sl Ty.str) h1, Dyn.mk (Ty.sl (Ty.int IntKind.i64)) h2, Dyn.mk (Ty.int IntKind.i64) 0]))
end
theorem p15_0 (x0 : List ByteArray) : runF tab ext15 false 55 [] 2000 [] tys15 Try.f15.results [true] [.code b15] (entE 0 0 sig15 (x0, ())) (entL sig15 (x0, ())) = some ([Dyn.mk (Ty.sl Ty.str) [], Dyn.mk (Ty.sl (Ty.int IntKind.i64)) [], Dyn.mk (Ty.int IntKind.i64) (g33_1 x0)], [], [P33 x0, (g33_1 x0 != 0) = Bool.true]) := by kernel_rfl
theorem p15_1 (x0 : List ByteArray) : Am.runN tab ext15 false 55 [] 2000 [] [(7, Ty.str), (8, Ty.int IntKind.i64)] [5, 7, 8, 19, 20, 21] [true, true, true] [false] [.code b15] (entE 0 0 sig15 (x0, ())) (entL sig15 (x0, ())) = some (cutAt b15 7, E15_7 (0) ([]) ([]) (x0), L15_7 (0) ([]) ([]) (x0), [P33 x0, (g33_1 x0 != 0) = Bool.false]) := by kernel_rfl
theorem p15_2 (v21 : Int) (h1 : List ByteArray) (h2 : List Int) (x0 : List ByteArray) : Am.runN tab ext15 false 55 [] 2000 [] [(7, Ty.str), (8, Ty.int IntKind.i64)] [5, 7, 8, 19, 20, 21] [true, true, true] [true, true, true] (cutAt b15 7) (E15_7 v21 h1 h2 x0) (L15_7 v21 h1 h2 x0) = some (cutAt b15 7, E15_7 (v21 + 1) (h1 ++ [List.getD (g33_0 x0) (Int.toNat v21) ByteArray.empty]) (List.set (h2 ++ [0]) (Int.toNat ((↑(List.length (h2 ++ [0])) : Int) - 1)) (List.getD (h2 ++ [0]) (Int.toNat ((↑(List.length (h2 ++ [0])) : Int) - 1)) 0 + 1)) (x0), L15_7 (v21 + 1) (h1 ++ [List.getD (g33_0 x0) (Int.toNat v21) ByteArray.empty]) (List.set (h2 ++ [0]) (Int.toNat ((↑(List.length (h2 ++ [0])) : Int) - 1)) (List.getD (h2 ++ [0]) (Int.toNat ((↑(List.length (h2 ++ [0])) : Int) - 1)) 0 + 1)) (x0), [Decidable.decide (v21 < (↑(List.length (g33_0 x0)) : Int)) = Bool.true, 0 ≤ v21, v21 < (↑(List.length (g33_0 x0)) : Int), (v21 == 0) = Bool.true, Bool.true = Bool.true, (List.length h1 + 1) * 16 ≤ 140737488355328, (List.length h2 + 1) * 8 ≤ 140737488355328, InR IntKind.i64 ((↑(List.length (h2 ++ [0])) : Int) - 1), 0 ≤ (↑(List.length (h2 ++ [0])) : Int) - 1, (↑(List.length (h2 ++ [0])) : Int) - 1 < (↑(List.length (h2 ++ [0])) : Int), InR IntKind.i64 (List.getD (h2 ++ [0]) (Int.toNat ((↑(List.length (h2 ++ [0])) : Int) - 1)) 0 + 1), 0 ≤ (↑(List.length (h2 ++ [0])) : Int) - 1, (↑(List.length (h2 ++ [0])) : Int) - 1 < (↑(List.length (h2 ++ [0])) : Int), InR IntKind.i64 (v21 + 1)]) := by kernel_rfl
theorem p15_3 (v21 : Int) (h1 : List ByteArray) (h2 : List Int) (x0 : List ByteArray) : Am.runN tab ext15 false 55 [] 2000 [] [(7, Ty.str), (8, Ty.int IntKind.i64)] [5, 7, 8, 19, 20, 21] [true, true, true] [true, false, true] (cutAt b15 7) (E15_7 v21 h1 h2 x0) (L15_7 v21 h1 h2 x0) = some (cutAt b15 7, E15_7 (v21 + 1) (h1 ++ [List.getD (g33_0 x0) (Int.toNat v21) ByteArray.empty]) (List.set (h2 ++ [0]) (Int.toNat ((↑(List.length (h2 ++ [0])) : Int) - 1)) (List.getD (h2 ++ [0]) (Int.toNat ((↑(List.length (h2 ++ [0])) : Int) - 1)) 0 + 1)) (x0), L15_7 (v21 + 1) (h1 ++ [List.getD (g33_0 x0) (Int.toNat v21) ByteArray.empty]) (List.set (h2 ++ [0]) (Int.toNat ((↑(List.length (h2 ++ [0])) : Int) - 1)) (List.getD (h2 ++ [0]) (Int.toNat ((↑(List.length (h2 ++ [0])) : Int) - 1)) 0 + 1)) (x0), [Decidable.decide (v21 < (↑(List.length (g33_0 x0)) : Int)) = Bool.true, 0 ≤ v21, v21 < (↑(List.length (g33_0 x0)) : Int), (v21 == 0) = Bool.false, InR IntKind.i64 (v21 - 1), 0 ≤ v21 - 1, v21 - 1 < (↑(List.length (g33_0 x0)) : Int), (!ByteArray.toList (List.getD (g33_0 x0) (Int.toNat v21) ByteArray.empty) == ByteArray.toList (List.getD (g33_0 x0) (Int.toNat (v21 - 1)) ByteArray.empty)) = Bool.true, (List.length h1 + 1) * 16 ≤ 140737488355328, (List.length h2 + 1) * 8 ≤ 140737488355328, InR IntKind.i64 ((↑(List.length (h2 ++ [0])) : Int) - 1), 0 ≤ (↑(List.length (h2 ++ [0])) : Int) - 1, (↑(List.length (h2 ++ [0])) : Int) - 1 < (↑(List.length (h2 ++ [0])) : Int), InR IntKind.i64 (List.getD (h2 ++ [0]) (Int.toNat ((↑(List.length (h2 ++ [0])) : Int) - 1)) 0 + 1), 0 ≤ (↑(List.length (h2 ++ [0])) : Int) - 1, (↑(List.length (h2 ++ [0])) : Int) - 1 < (↑(List.length (h2 ++ [0])) : Int), InR IntKind.i64 (v21 + 1)]) := by kernel_rfl
theorem p15_4 (v21 : Int) (h1 : List ByteArray) (h2 : List Int) (x0 : List ByteArray) : Am.runN tab ext15 false 55 [] 2000 [] [(7, Ty.str), (8, Ty.int IntKind.i64)] [5, 7, 8, 19, 20, 21] [true, true, true] [true, false, false] (cutAt b15 7) (E15_7 v21 h1 h2 x0) (L15_7 v21 h1 h2 x0) = some (cutAt b15 7, E15_7 (v21 + 1) (h1) (List.set h2 (Int.toNat ((↑(List.length h2) : Int) - 1)) (List.getD h2 (Int.toNat ((↑(List.length h2) : Int) - 1)) 0 + 1)) (x0), L15_7 (v21 + 1) (h1) (List.set h2 (Int.toNat ((↑(List.length h2) : Int) - 1)) (List.getD h2 (Int.toNat ((↑(List.length h2) : Int) - 1)) 0 + 1)) (x0), [Decidable.decide (v21 < (↑(List.length (g33_0 x0)) : Int)) = Bool.true, 0 ≤ v21, v21 < (↑(List.length (g33_0 x0)) : Int), (v21 == 0) = Bool.false, InR IntKind.i64 (v21 - 1), 0 ≤ v21 - 1, v21 - 1 < (↑(List.length (g33_0 x0)) : Int), (!ByteArray.toList (List.getD (g33_0 x0) (Int.toNat v21) ByteArray.empty) == ByteArray.toList (List.getD (g33_0 x0) (Int.toNat (v21 - 1)) ByteArray.empty)) = Bool.false, InR IntKind.i64 ((↑(List.length h2) : Int) - 1), 0 ≤ (↑(List.length h2) : Int) - 1, (↑(List.length h2) : Int) - 1 < (↑(List.length h2) : Int), InR IntKind.i64 (List.getD h2 (Int.toNat ((↑(List.length h2) : Int) - 1)) 0 + 1), 0 ≤ (↑(List.length h2) : Int) - 1, (↑(List.length h2) : Int) - 1 < (↑(List.length h2) : Int), InR IntKind.i64 (v21 + 1)]) := by kernel_rfl
theorem p15_5 (v21 : Int) (h1 : List ByteArray) (h2 : List Int) (x0 : List ByteArray) : runF tab ext15 false 55 [] 2000 [] tys15 Try.f15.results [false] (cutAt b15 7) (E15_7 v21 h1 h2 x0) (L15_7 v21 h1 h2 x0) = some ([Dyn.mk (Ty.sl Ty.str) h1, Dyn.mk (Ty.sl (Ty.int IntKind.i64)) h2, Dyn.mk (Ty.int IntKind.i64) 0], [], [Decidable.decide (v21 < (↑(List.length (g33_0 x0)) : Int)) = Bool.false]) := by kernel_rfl
theorem snd15 : ∀ n, (∀ (x0 : List ByteArray) ds, R15 n x0 ds → ∀ w0 O q, AtV Try.prog 15 (PostR ds [] [] q w0 O) 55 w0 O q [] [.code b15] (entE 0 0 sig15 (x0, ())) (entL sig15 (x0, ()))) ∧ (∀ (v21 : Int) (h1 : List ByteArray) (h2 : List Int) (x0 : List ByteArray) ds, R15_7 n v21 h1 h2 x0 ds → ∀ w0 O q, AtV Try.prog 15 (PostR ds [] [] q w0 O) 55 w0 O q [] (cutAt b15 7) (E15_7 v21 h1 h2 x0) (L15_7 v21 h1 h2 x0)) := by
  intro n
  induction n with
  | zero => exact ⟨fun _ _ h => by simp only [R15] at h, fun _ _ _ _ _ h => by simp only [R15_7] at h⟩
  | succ n ih =>
  obtain ⟨ih, ih7⟩ := ih
  refine ⟨?_, ?_⟩
  · intro x0 ds h w0 O q
    rw [R15] at h
    obtain ⟨s0, h⟩ := h
    by_cases b0 : (g33_1 x0 != 0) = true
    · rw [if_pos b0] at h
      subst h
      exact AtV.fin Try.func15 tabOk ext15Ok mixed (p15_0 x0) ⟨s0, b0, trivial⟩
    · rw [if_neg b0] at h
      replace b0 := Bool.eq_false_iff.2 b0
      exact AtV.runN tabOk ext15Ok mixed (p15_1 x0) ⟨s0, b0, trivial⟩ (ih7 _ _ _ _ _ h w0 O q)

  · intro v21 h1 h2 x0 ds h w0 O q
    rw [R15_7] at h
    by_cases b0 : (Decidable.decide (v21 < (↑(List.length (g33_0 x0)) : Int))) = true
    · rw [if_pos b0] at h
      obtain ⟨s0, s1, h⟩ := h
      by_cases b1 : (v21 == 0) = true
      · rw [if_pos b1] at h
        obtain ⟨s2, h⟩ := h
        obtain ⟨s3, h⟩ := h
        obtain ⟨s4, h⟩ := h
        obtain ⟨s5, s6, h⟩ := h
        obtain ⟨s7, h⟩ := h
        obtain ⟨s8, s9, h⟩ := h
        obtain ⟨s10, h⟩ := h
        exact AtV.runN tabOk ext15Ok mixed (p15_2 v21 h1 h2 x0) ⟨b0, s0, s1, b1, rfl, s2, s3, s4, s5, s6, s7, s8, s9, s10, trivial⟩ (ih7 _ _ _ _ _ h w0 O q)
      · rw [if_neg b1] at h
        replace b1 := Bool.eq_false_iff.2 b1
        obtain ⟨s2, h⟩ := h
        obtain ⟨s3, s4, h⟩ := h
        by_cases b2 : (!ByteArray.toList (List.getD (g33_0 x0) (Int.toNat v21) ByteArray.empty) == ByteArray.toList (List.getD (g33_0 x0) (Int.toNat (v21 - 1)) ByteArray.empty)) = true
        · rw [if_pos b2] at h
          obtain ⟨s5, h⟩ := h
          obtain ⟨s6, h⟩ := h
          obtain ⟨s7, h⟩ := h
          obtain ⟨s8, s9, h⟩ := h
          obtain ⟨s10, h⟩ := h
          obtain ⟨s11, s12, h⟩ := h
          obtain ⟨s13, h⟩ := h
          exact AtV.runN tabOk ext15Ok mixed (p15_3 v21 h1 h2 x0) ⟨b0, s0, s1, b1, s2, s3, s4, b2, s5, s6, s7, s8, s9, s10, s11, s12, s13, trivial⟩ (ih7 _ _ _ _ _ h w0 O q)
        · rw [if_neg b2] at h
          replace b2 := Bool.eq_false_iff.2 b2
          obtain ⟨s5, h⟩ := h
          obtain ⟨s6, s7, h⟩ := h
          obtain ⟨s8, h⟩ := h
          obtain ⟨s9, s10, h⟩ := h
          obtain ⟨s11, h⟩ := h
          exact AtV.runN tabOk ext15Ok mixed (p15_4 v21 h1 h2 x0) ⟨b0, s0, s1, b1, s2, s3, s4, b2, s5, s6, s7, s8, s9, s10, s11, trivial⟩ (ih7 _ _ _ _ _ h w0 O q)
    · rw [if_neg b0] at h
      replace b0 := Bool.eq_false_iff.2 b0
      subst h
      exact AtV.fin Try.func15 tabOk ext15Ok mixed (p15_5 v21 h1 h2 x0) ⟨b0, trivial⟩


def g15_0 (x0 : List ByteArray) : List ByteArray := if g41_0 x0 = true then (counted (sortB x0)).1.1 else []
def g15_1 (x0 : List ByteArray) : List Int := if g41_0 x0 = true then (counted (sortB x0)).1.2 else []
def g15_2 (x0 : List ByteArray) : Int := if g41_0 x0 = true then 0 else 1
def P15 (x0 : List ByteArray) : Prop := x0.length ≤ 1048576

theorem top15 (x0 : List ByteArray) (hp : P15 x0) : ∃ n, R15 n x0 [⟨.sl .str, g15_0 x0⟩, ⟨.sl (.int .i64), g15_1 x0⟩, ⟨.int .i64, g15_2 x0⟩] := by
  have hl : x0.length ≤ 1048576 := hp
  have hP : P33 x0 := by
    unfold P33
    split
    · trivial
    · exact ⟨hl, hl, (sortB_perm x0).length_eq, trivial⟩
  by_cases hok : g41_0 x0 = true
  case neg =>
    refine ⟨1, ?_⟩
    rw [R15]
    have hok := Bool.eq_false_iff.2 hok
    have e : g33_1 x0 = 1 := by unfold g33_1; rw [if_pos (by rw [hok]; rfl)]
    refine ⟨hP, ?_⟩
    rw [if_pos (by rw [e]; rfl), e]
    simp [g15_0, g15_1, g15_2, hok]
  case pos =>
    have e0 : g33_0 x0 = sortB x0 := by unfold g33_0; rw [if_neg (by rw [hok]; simp)]; rfl
    have e1 : g33_1 x0 = 0 := by unfold g33_1; rw [if_neg (by rw [hok]; simp)]
    have hs : (g33_0 x0).length = x0.length := by rw [e0]; exact (sortB_perm x0).length_eq
    have hm : (g33_0 x0).length ≤ maxLen := by unfold maxLen; omega
    refine ⟨(g33_0 x0).length + 1 + 1, ?_⟩
    rw [R15]
    refine ⟨hP, ?_⟩
    rw [if_neg (by rw [e1]; simp)]
    unfold g15_0 g15_1 g15_2
    rw [if_pos hok, if_pos hok, if_pos hok, ← e0]
    refine loop_fold (b := (([], []), 0)) (g33_0 x0) ByteArray.empty (cntStep (g33_0 x0)) (fun b => [(⟨.sl .str, b.1.1⟩ : Dyn), ⟨.sl (.int .i64), b.1.2⟩, ⟨.int .i64, (0 : Int)⟩]) CntInv (fun n i b ds => R15_7 n i b.1.1 b.1.2 x0 ds) ⟨rfl, by simp, rfl, .inl rfl, by simp⟩ (fun n b _ => ?_) (fun n i b hi hb => ⟨cnt_inv _ _ hb, fun ds hr => ?_⟩)
    · show R15_7 (n + 1) (g33_0 x0).length b.1.1 b.1.2 x0 _
      rw [R15_7, if_neg (by simp)]
    · obtain ⟨⟨h1, h2⟩, j⟩ := b
      obtain ⟨e, a1, a2, a3, a4⟩ := hb
      simp only at e a1 a2 a3 a4
      subst e
      have hup := inR_up hm hi
      obtain ⟨c1, c2, c3, c4⟩ := cnt_side (h := h2 ++ [0]) (n := j) (by simp) (by simp; omega) (fun c hc => by
        rcases List.mem_append.1 hc with hc | hc
        · exact a4 c hc
        · rw [List.mem_singleton.1 hc]; omega) (by omega)
      show R15_7 (n + 1) (j : Int) h1 h2 x0 ds
      rw [R15_7, if_pos (by simp only [decide_eq_true_eq]; omega)]
      unfold cntStep cntNew at hr
      simp only at hr
      by_cases h0 : j = 0
      · subst h0
        rw [if_pos (by simp)] at hr
        rw [if_pos (by rfl)]
        exact ⟨by omega, by omega, by omega, by omega, c1, c2, c3, c4, c2, c3, hup, hr⟩
      · obtain ⟨d1, d2, d3, d4⟩ := cnt_side (h := h2) (n := j) (by rcases a3 with a3 | a3; exact absurd a3 h0; exact a3) (by omega) a4 (by omega)
        have t : ((j : Int) - 1).toNat = j - 1 := by omega
        rw [if_neg (by simp; omega)]
        simp only [Int.toNat_natCast, t]
        refine ⟨by omega, by omega, by rw [i64_iff]; omega, by omega, by omega, ?_⟩
        by_cases hn : (!(ByteArray.toList ((g33_0 x0).getD j ByteArray.empty) == ByteArray.toList ((g33_0 x0).getD (j - 1) ByteArray.empty))) = true
        · rw [if_pos (by rw [hn]; simp)] at hr
          rw [if_pos (by exact hn)]
          exact ⟨by omega, by omega, c1, c2, c3, c4, c2, c3, hup, hr⟩
        · rw [if_neg (by rw [Bool.or_eq_true]; rintro (h | h); exact h0 (of_decide_eq_true h); exact hn h)] at hr
          rw [if_neg (by exact hn)]
          exact ⟨d1, d2, d3, d4, d2, d3, hup, hr⟩

def S15 : Am.Spec := { sig := sig15, pre := fun ⟨x0, _⟩ => P15 x0, res := fun ⟨x0, _⟩ => [⟨.sl .str, g15_0 x0⟩, ⟨.sl (.int .i64), g15_1 x0⟩, ⟨.int .i64, g15_2 x0⟩] }
theorem con15 : Contract Try.prog 15 S15 := contract_of Try.func15 hb15 (Nat.le_of_ble_eq_true (by kernel_rfl)) (fun ⟨x0, _⟩ h hwf w0 O q =>
  let ⟨n, hn⟩ := top15 x0 h
  (snd15 n).1 x0 _ hn w0 O q)

end Go.Proofs.Ytncnaaoifbhkjaa

/- Function 16 (laws.eqStringS): its runs between cut points. Written by a program of this repo (gen). -/
set_option linter.unusedVariables false
set_option linter.unusedSimpArgs false
set_option maxRecDepth 100000
namespace Go.Proofs.Ytncnaaoifbhkjaa
open Go Go.Am Go.Proofs
def ext16 : Ext := []
theorem ext16Ok : ExtOk Try.prog ext16 := trivial
/-! Function 16. -/
noncomputable def b16 : Code := bodyOf Try.f16
theorem hb16 : Try.f16.body = some b16 := by kernel_rfl
def sig16 : List AT := [AT.v (Ty.sl Ty.str), AT.v (Ty.sl Ty.str)]
def tys16 : List Ty := [Ty.bool]
def E16_4 (v5 : Int) (x0 : List ByteArray) (x1 : List ByteArray) : Env := [(0, PV.a (Atom.sl Ty.str x0)), (1, PV.a (Atom.sl Ty.str x1)), (5, PV.a (Atom.val (Value.int IntKind.i64 v5)))]
def L16_4 (v5 : Int) (x0 : List ByteArray) (x1 : List ByteArray) : Heap := []
mutual
def R16 : Nat → List ByteArray → List ByteArray → List Dyn → Prop
  | 0, _, _, _ => False
  | n + 1, x0, x1, ds => (if ((↑(List.length x0) : Int) != (↑(List.length x1) : Int)) = true then (ds = [Dyn.mk Ty.bool Bool.false]) else (R16_4 n (0) (x0) (x1) ds))
def R16_4 : Nat → Int → List ByteArray → List ByteArray → List Dyn → Prop
  | 0, _, _, _, _ => False
  | n + 1, v5, x0, x1, ds => (if (Decidable.decide (v5 < (↑(List.length x0) : Int))) = true then ((0 ≤ v5) ∧ (v5 < (↑(List.length x0) : Int)) ∧ ((0 ≤ v5) ∧ (v5 < (↑(List.length x1) : Int)) ∧ (if (!ByteArray.toList (List.getD x0 (Int.toNat v5) ByteArray.empty) == ByteArray.toList (List.getD x1 (Int.toNat v5) ByteArray.empty)) = true then (ds = [Dyn.mk Ty.bool Bool.false]) else ((InR IntKind.i64 (v5 + 1)) ∧ (R16_4 n (v5 + 1) (x0) (x1) ds))))) else (ds = [Dyn.mk Ty.bool Bool.true]))
end
theorem p16_0 (x0 : List ByteArray) (x1 : List ByteArray) : runF tab ext16 false 26 [] 2000 [] tys16 Try.f16.results [true] [.code b16] (entE 0 0 sig16 (x0, x1, ())) (entL sig16 (x0, x1, ())) = some ([Dyn.mk Ty.bool Bool.false], [], [((↑(List.length x0) : Int) != (↑(List.length x1) : Int)) = Bool.true]) := by kernel_rfl
theorem p16_1 (x0 : List ByteArray) (x1 : List ByteArray) : Am.runN tab ext16 false 26 [] 2000 [] [] [0, 1, 5] [] [false] [.code b16] (entE 0 0 sig16 (x0, x1, ())) (entL sig16 (x0, x1, ())) = some (cutAt b16 4, E16_4 (0) (x0) (x1), L16_4 (0) (x0) (x1), [((↑(List.length x0) : Int) != (↑(List.length x1) : Int)) = Bool.false]) := by kernel_rfl
theorem p16_2 (v5 : Int) (x0 : List ByteArray) (x1 : List ByteArray) : runF tab ext16 false 26 [] 2000 [] tys16 Try.f16.results [true, true] (cutAt b16 4) (E16_4 v5 x0 x1) (L16_4 v5 x0 x1) = some ([Dyn.mk Ty.bool Bool.false], [], [Decidable.decide (v5 < (↑(List.length x0) : Int)) = Bool.true, 0 ≤ v5, v5 < (↑(List.length x0) : Int), 0 ≤ v5, v5 < (↑(List.length x1) : Int), (!ByteArray.toList (List.getD x0 (Int.toNat v5) ByteArray.empty) == ByteArray.toList (List.getD x1 (Int.toNat v5) ByteArray.empty)) = Bool.true]) := by kernel_rfl
theorem p16_3 (v5 : Int) (x0 : List ByteArray) (x1 : List ByteArray) : Am.runN tab ext16 false 26 [] 2000 [] [] [0, 1, 5] [] [true, false] (cutAt b16 4) (E16_4 v5 x0 x1) (L16_4 v5 x0 x1) = some (cutAt b16 4, E16_4 (v5 + 1) (x0) (x1), L16_4 (v5 + 1) (x0) (x1), [Decidable.decide (v5 < (↑(List.length x0) : Int)) = Bool.true, 0 ≤ v5, v5 < (↑(List.length x0) : Int), 0 ≤ v5, v5 < (↑(List.length x1) : Int), (!ByteArray.toList (List.getD x0 (Int.toNat v5) ByteArray.empty) == ByteArray.toList (List.getD x1 (Int.toNat v5) ByteArray.empty)) = Bool.false, InR IntKind.i64 (v5 + 1)]) := by kernel_rfl
theorem p16_4 (v5 : Int) (x0 : List ByteArray) (x1 : List ByteArray) : runF tab ext16 false 26 [] 2000 [] tys16 Try.f16.results [false] (cutAt b16 4) (E16_4 v5 x0 x1) (L16_4 v5 x0 x1) = some ([Dyn.mk Ty.bool Bool.true], [], [Decidable.decide (v5 < (↑(List.length x0) : Int)) = Bool.false]) := by kernel_rfl
theorem snd16 : ∀ n, (∀ (x0 : List ByteArray) (x1 : List ByteArray) ds, R16 n x0 x1 ds → ∀ w0 O q, AtV Try.prog 16 (PostR ds [] [] q w0 O) 26 w0 O q [] [.code b16] (entE 0 0 sig16 (x0, x1, ())) (entL sig16 (x0, x1, ()))) ∧ (∀ (v5 : Int) (x0 : List ByteArray) (x1 : List ByteArray) ds, R16_4 n v5 x0 x1 ds → ∀ w0 O q, AtV Try.prog 16 (PostR ds [] [] q w0 O) 26 w0 O q [] (cutAt b16 4) (E16_4 v5 x0 x1) (L16_4 v5 x0 x1)) := by
  intro n
  induction n with
  | zero => exact ⟨fun _ _ _ h => by simp only [R16] at h, fun _ _ _ _ h => by simp only [R16_4] at h⟩
  | succ n ih =>
  obtain ⟨ih, ih4⟩ := ih
  refine ⟨?_, ?_⟩
  · intro x0 x1 ds h w0 O q
    rw [R16] at h
    by_cases b0 : ((↑(List.length x0) : Int) != (↑(List.length x1) : Int)) = true
    · rw [if_pos b0] at h
      subst h
      exact AtV.fin Try.func16 tabOk ext16Ok mixed (p16_0 x0 x1) ⟨b0, trivial⟩
    · rw [if_neg b0] at h
      replace b0 := Bool.eq_false_iff.2 b0
      exact AtV.runN tabOk ext16Ok mixed (p16_1 x0 x1) ⟨b0, trivial⟩ (ih4 _ _ _ _ h w0 O q)

  · intro v5 x0 x1 ds h w0 O q
    rw [R16_4] at h
    by_cases b0 : (Decidable.decide (v5 < (↑(List.length x0) : Int))) = true
    · rw [if_pos b0] at h
      obtain ⟨s0, s1, h⟩ := h
      obtain ⟨s2, s3, h⟩ := h
      by_cases b1 : (!ByteArray.toList (List.getD x0 (Int.toNat v5) ByteArray.empty) == ByteArray.toList (List.getD x1 (Int.toNat v5) ByteArray.empty)) = true
      · rw [if_pos b1] at h
        subst h
        exact AtV.fin Try.func16 tabOk ext16Ok mixed (p16_2 v5 x0 x1) ⟨b0, s0, s1, s2, s3, b1, trivial⟩
      · rw [if_neg b1] at h
        replace b1 := Bool.eq_false_iff.2 b1
        obtain ⟨s4, h⟩ := h
        exact AtV.runN tabOk ext16Ok mixed (p16_3 v5 x0 x1) ⟨b0, s0, s1, s2, s3, b1, s4, trivial⟩ (ih4 _ _ _ _ h w0 O q)
    · rw [if_neg b0] at h
      replace b0 := Bool.eq_false_iff.2 b0
      subst h
      exact AtV.fin Try.func16 tabOk ext16Ok mixed (p16_4 v5 x0 x1) ⟨b0, trivial⟩



theorem eq16 (x0 x1 : List (ByteArray)) (hl : x0.length = x1.length) (hm : x0.length ≤ maxLen) : ∀ k i : Nat, i + k = x0.length → R16_4 (k + 1) (i : Int) x0 x1 [⟨.bool, decide (x0.drop i = x1.drop i)⟩] := by
  intro k
  induction k with
  | zero =>
    intro i hi
    have h1 : ¬ (i : Int) < (x0.length : Int) := by omega
    rw [R16_4, if_neg (by simpa using h1), drop_end x0 i (by omega), drop_end x1 i (by omega)]
    simp
  | succ k ih =>
    intro i hi
    have h1 : (i : Int) < (x0.length : Int) := by omega
    rw [R16_4, if_pos (by simpa using h1)]
    refine ⟨by omega, h1, by omega, by omega, ?_⟩
    simp only [Int.toNat_natCast]
    rw [drop_get x0 i ByteArray.empty (by omega), drop_get x1 i ByteArray.empty (by omega)]
    by_cases he : x0.getD i ByteArray.empty = x1.getD i ByteArray.empty
    · have hd := (bytes_eq _ _).2 he
      rw [if_neg (by rw [hd]; simp)]
      refine ⟨inR_up hm (by omega), ?_⟩
      have := ih (i + 1) (by omega)
      simp only [he, List.cons.injEq, true_and]
      exact this
    · have hd : (ByteArray.toList (x0.getD i ByteArray.empty) == ByteArray.toList (x1.getD i ByteArray.empty)) = false :=
        (bytes_ne _ _).2 he
      rw [if_pos (by rw [hd]; rfl)]
      simp only [he, List.cons.injEq, false_and, decide_false]

def g16_0 (x0 x1 : List (ByteArray)) : Bool := decide (x0 = x1)
def P16 (x0 x1 : List (ByteArray)) : Prop := True
def S16 : Am.Spec := { sig := sig16, pre := fun ⟨x0, x1, _⟩ => P16 x0 x1, res := fun ⟨x0, x1, _⟩ => [⟨Ty.bool, g16_0 x0 x1⟩] }
theorem con16 : Contract Try.prog 16 S16 := contract_of Try.func16 hb16 (Nat.le_of_ble_eq_true (by kernel_rfl)) (fun ⟨x0, x1, _⟩ h hwf w0 O q => by
  refine (snd16 (x0.length + 2)).1 x0 x1 _ ?_ w0 O q
  show R16 (x0.length + 1 + 1) x0 x1 [⟨Ty.bool, decide (x0 = x1)⟩]
  rw [R16]
  by_cases hl : x0.length = x1.length
  · rw [if_neg (by simp [hl])]
    have := eq16 x0 x1 hl hwf.1.1 x0.length 0 (by omega)
    simpa using this
  · rw [if_pos (by simp; omega)]
    have : x0 ≠ x1 := fun h => hl (by rw [h])
    simp [this])

end Go.Proofs.Ytncnaaoifbhkjaa

/- Function 17 (laws.eqInt64S): its runs between cut points. Written by a program of this repo (gen). -/
set_option linter.unusedVariables false
set_option linter.unusedSimpArgs false
set_option maxRecDepth 100000
namespace Go.Proofs.Ytncnaaoifbhkjaa
open Go Go.Am Go.Proofs
def ext17 : Ext := []
theorem ext17Ok : ExtOk Try.prog ext17 := trivial
/-! Function 17. -/
noncomputable def b17 : Code := bodyOf Try.f17
theorem hb17 : Try.f17.body = some b17 := by kernel_rfl
def sig17 : List AT := [AT.v (Ty.sl (Ty.int IntKind.i64)), AT.v (Ty.sl (Ty.int IntKind.i64))]
def tys17 : List Ty := [Ty.bool]
def E17_4 (v5 : Int) (x0 : List Int) (x1 : List Int) : Env := [(0, PV.a (Atom.sl (Ty.int IntKind.i64) x0)), (1, PV.a (Atom.sl (Ty.int IntKind.i64) x1)), (5, PV.a (Atom.val (Value.int IntKind.i64 v5)))]
def L17_4 (v5 : Int) (x0 : List Int) (x1 : List Int) : Heap := []
mutual
def R17 : Nat → List Int → List Int → List Dyn → Prop
  | 0, _, _, _ => False
  | n + 1, x0, x1, ds => (if ((↑(List.length x0) : Int) != (↑(List.length x1) : Int)) = true then (ds = [Dyn.mk Ty.bool Bool.false]) else (R17_4 n (0) (x0) (x1) ds))
def R17_4 : Nat → Int → List Int → List Int → List Dyn → Prop
  | 0, _, _, _, _ => False
  | n + 1, v5, x0, x1, ds => (if (Decidable.decide (v5 < (↑(List.length x0) : Int))) = true then ((0 ≤ v5) ∧ (v5 < (↑(List.length x0) : Int)) ∧ ((0 ≤ v5) ∧ (v5 < (↑(List.length x1) : Int)) ∧ (if (List.getD x0 (Int.toNat v5) 0 != List.getD x1 (Int.toNat v5) 0) = true then (ds = [Dyn.mk Ty.bool Bool.false]) else ((InR IntKind.i64 (v5 + 1)) ∧ (R17_4 n (v5 + 1) (x0) (x1) ds))))) else (ds = [Dyn.mk Ty.bool Bool.true]))
end
theorem p17_0 (x0 : List Int) (x1 : List Int) : runF tab ext17 false 26 [] 2000 [] tys17 Try.f17.results [true] [.code b17] (entE 0 0 sig17 (x0, x1, ())) (entL sig17 (x0, x1, ())) = some ([Dyn.mk Ty.bool Bool.false], [], [((↑(List.length x0) : Int) != (↑(List.length x1) : Int)) = Bool.true]) := by kernel_rfl
theorem p17_1 (x0 : List Int) (x1 : List Int) : Am.runN tab ext17 false 26 [] 2000 [] [] [0, 1, 5] [] [false] [.code b17] (entE 0 0 sig17 (x0, x1, ())) (entL sig17 (x0, x1, ())) = some (cutAt b17 4, E17_4 (0) (x0) (x1), L17_4 (0) (x0) (x1), [((↑(List.length x0) : Int) != (↑(List.length x1) : Int)) = Bool.false]) := by kernel_rfl
theorem p17_2 (v5 : Int) (x0 : List Int) (x1 : List Int) : runF tab ext17 false 26 [] 2000 [] tys17 Try.f17.results [true, true] (cutAt b17 4) (E17_4 v5 x0 x1) (L17_4 v5 x0 x1) = some ([Dyn.mk Ty.bool Bool.false], [], [Decidable.decide (v5 < (↑(List.length x0) : Int)) = Bool.true, 0 ≤ v5, v5 < (↑(List.length x0) : Int), 0 ≤ v5, v5 < (↑(List.length x1) : Int), (List.getD x0 (Int.toNat v5) 0 != List.getD x1 (Int.toNat v5) 0) = Bool.true]) := by kernel_rfl
theorem p17_3 (v5 : Int) (x0 : List Int) (x1 : List Int) : Am.runN tab ext17 false 26 [] 2000 [] [] [0, 1, 5] [] [true, false] (cutAt b17 4) (E17_4 v5 x0 x1) (L17_4 v5 x0 x1) = some (cutAt b17 4, E17_4 (v5 + 1) (x0) (x1), L17_4 (v5 + 1) (x0) (x1), [Decidable.decide (v5 < (↑(List.length x0) : Int)) = Bool.true, 0 ≤ v5, v5 < (↑(List.length x0) : Int), 0 ≤ v5, v5 < (↑(List.length x1) : Int), (List.getD x0 (Int.toNat v5) 0 != List.getD x1 (Int.toNat v5) 0) = Bool.false, InR IntKind.i64 (v5 + 1)]) := by kernel_rfl
theorem p17_4 (v5 : Int) (x0 : List Int) (x1 : List Int) : runF tab ext17 false 26 [] 2000 [] tys17 Try.f17.results [false] (cutAt b17 4) (E17_4 v5 x0 x1) (L17_4 v5 x0 x1) = some ([Dyn.mk Ty.bool Bool.true], [], [Decidable.decide (v5 < (↑(List.length x0) : Int)) = Bool.false]) := by kernel_rfl
theorem snd17 : ∀ n, (∀ (x0 : List Int) (x1 : List Int) ds, R17 n x0 x1 ds → ∀ w0 O q, AtV Try.prog 17 (PostR ds [] [] q w0 O) 26 w0 O q [] [.code b17] (entE 0 0 sig17 (x0, x1, ())) (entL sig17 (x0, x1, ()))) ∧ (∀ (v5 : Int) (x0 : List Int) (x1 : List Int) ds, R17_4 n v5 x0 x1 ds → ∀ w0 O q, AtV Try.prog 17 (PostR ds [] [] q w0 O) 26 w0 O q [] (cutAt b17 4) (E17_4 v5 x0 x1) (L17_4 v5 x0 x1)) := by
  intro n
  induction n with
  | zero => exact ⟨fun _ _ _ h => by simp only [R17] at h, fun _ _ _ _ h => by simp only [R17_4] at h⟩
  | succ n ih =>
  obtain ⟨ih, ih4⟩ := ih
  refine ⟨?_, ?_⟩
  · intro x0 x1 ds h w0 O q
    rw [R17] at h
    by_cases b0 : ((↑(List.length x0) : Int) != (↑(List.length x1) : Int)) = true
    · rw [if_pos b0] at h
      subst h
      exact AtV.fin Try.func17 tabOk ext17Ok mixed (p17_0 x0 x1) ⟨b0, trivial⟩
    · rw [if_neg b0] at h
      replace b0 := Bool.eq_false_iff.2 b0
      exact AtV.runN tabOk ext17Ok mixed (p17_1 x0 x1) ⟨b0, trivial⟩ (ih4 _ _ _ _ h w0 O q)

  · intro v5 x0 x1 ds h w0 O q
    rw [R17_4] at h
    by_cases b0 : (Decidable.decide (v5 < (↑(List.length x0) : Int))) = true
    · rw [if_pos b0] at h
      obtain ⟨s0, s1, h⟩ := h
      obtain ⟨s2, s3, h⟩ := h
      by_cases b1 : (List.getD x0 (Int.toNat v5) 0 != List.getD x1 (Int.toNat v5) 0) = true
      · rw [if_pos b1] at h
        subst h
        exact AtV.fin Try.func17 tabOk ext17Ok mixed (p17_2 v5 x0 x1) ⟨b0, s0, s1, s2, s3, b1, trivial⟩
      · rw [if_neg b1] at h
        replace b1 := Bool.eq_false_iff.2 b1
        obtain ⟨s4, h⟩ := h
        exact AtV.runN tabOk ext17Ok mixed (p17_3 v5 x0 x1) ⟨b0, s0, s1, s2, s3, b1, s4, trivial⟩ (ih4 _ _ _ _ h w0 O q)
    · rw [if_neg b0] at h
      replace b0 := Bool.eq_false_iff.2 b0
      subst h
      exact AtV.fin Try.func17 tabOk ext17Ok mixed (p17_4 v5 x0 x1) ⟨b0, trivial⟩



theorem eq17 (x0 x1 : List (Int)) (hl : x0.length = x1.length) (hm : x0.length ≤ maxLen) : ∀ k i : Nat, i + k = x0.length → R17_4 (k + 1) (i : Int) x0 x1 [⟨.bool, decide (x0.drop i = x1.drop i)⟩] := by
  intro k
  induction k with
  | zero =>
    intro i hi
    have h1 : ¬ (i : Int) < (x0.length : Int) := by omega
    rw [R17_4, if_neg (by simpa using h1), drop_end x0 i (by omega), drop_end x1 i (by omega)]
    simp
  | succ k ih =>
    intro i hi
    have h1 : (i : Int) < (x0.length : Int) := by omega
    rw [R17_4, if_pos (by simpa using h1)]
    refine ⟨by omega, h1, by omega, by omega, ?_⟩
    simp only [Int.toNat_natCast]
    rw [drop_get x0 i 0 (by omega), drop_get x1 i 0 (by omega)]
    by_cases he : x0.getD i 0 = x1.getD i 0
    · rw [if_neg (by simp only [he, bne_self_eq_false, Bool.false_eq_true, not_false_eq_true])]
      refine ⟨inR_up hm (by omega), ?_⟩
      have := ih (i + 1) (by omega)
      simp only [he, List.cons.injEq, true_and]
      exact this
    · rw [if_pos (by simpa only [bne_iff_ne, ne_eq] using he)]
      simp only [he, List.cons.injEq, false_and, decide_false]

def g17_0 (x0 x1 : List (Int)) : Bool := decide (x0 = x1)
def P17 (x0 x1 : List (Int)) : Prop := True
def S17 : Am.Spec := { sig := sig17, pre := fun ⟨x0, x1, _⟩ => P17 x0 x1, res := fun ⟨x0, x1, _⟩ => [⟨Ty.bool, g17_0 x0 x1⟩] }
theorem con17 : Contract Try.prog 17 S17 := contract_of Try.func17 hb17 (Nat.le_of_ble_eq_true (by kernel_rfl)) (fun ⟨x0, x1, _⟩ h hwf w0 O q => by
  refine (snd17 (x0.length + 2)).1 x0 x1 _ ?_ w0 O q
  show R17 (x0.length + 1 + 1) x0 x1 [⟨Ty.bool, decide (x0 = x1)⟩]
  rw [R17]
  by_cases hl : x0.length = x1.length
  · rw [if_neg (by simp [hl])]
    have := eq17 x0 x1 hl hwf.1.1 x0.length 0 (by omega)
    simpa using this
  · rw [if_pos (by simp; omega)]
    have : x0 ≠ x1 := fun h => hl (by rw [h])
    simp [this])

end Go.Proofs.Ytncnaaoifbhkjaa

/- Function 30 (laws.markText): its runs between cut points. Written by a program of this repo (gen). -/
set_option linter.unusedVariables false
set_option linter.unusedSimpArgs false
set_option maxRecDepth 100000
namespace Go.Proofs.Ytncnaaoifbhkjaa
open Go Go.Am Go.Proofs
def ext30 : Ext := []
theorem ext30Ok : ExtOk Try.prog ext30 := trivial
/-! Function 30. -/
noncomputable def b30 : Code := bodyOf Try.f30
theorem hb30 : Try.f30.body = some b30 := by kernel_rfl
def sig30 : List AT := [AT.v (Ty.int IntKind.i64)]
def tys30 : List Ty := [Ty.str]
def E30_4 (v3 : ByteArray) (x0 : Int) : Env := [(0, PV.a (Atom.val (Value.int IntKind.i64 x0))), (3, PV.a (Atom.val (Value.string v3)))]
def L30_4 (v3 : ByteArray) (x0 : Int) : Heap := []
mutual
def R30 : Nat → Int → List Dyn → Prop
  | 0, _, _ => False
  | n + 1, x0, ds => (if (Decidable.decide (x0 ≤ 0)) = true then (ds = [Dyn.mk Ty.str (ByteArray.mk #[109, 48])]) else (R30_4 n (ByteArray.mk #[]) (x0) ds))
def R30_4 : Nat → ByteArray → Int → List Dyn → Prop
  | 0, _, _, _ => False
  | n + 1, v3, x0, ds => (if (Decidable.decide (x0 > 0)) = true then ((InR IntKind.i64 (Int.tmod x0 10)) ∧ ((InR IntKind.i64 (48 + Int.tmod x0 10)) ∧ ((InR IntKind.u8 (48 + Int.tmod x0 10)) ∧ ((ByteArray.size (bytesStr [48 + Int.tmod x0 10]) + ByteArray.size v3 ≤ 9223372036854775807) ∧ ((InR IntKind.i64 (Int.tdiv x0 10)) ∧ (R30_4 n (bytesStr [48 + Int.tmod x0 10] ++ v3) (Int.tdiv x0 10) ds)))))) else ((1 + ByteArray.size v3 ≤ 9223372036854775807) ∧ (ds = [Dyn.mk Ty.str (ByteArray.mk #[109] ++ v3)])))
end
theorem p30_0 (x0 : Int) : runF tab ext30 false 20 [] 2000 [] tys30 Try.f30.results [true] [.code b30] (entE 0 0 sig30 (x0, ())) (entL sig30 (x0, ())) = some ([Dyn.mk Ty.str (ByteArray.mk #[109, 48])], [], [Decidable.decide (x0 ≤ 0) = Bool.true]) := by kernel_rfl
theorem p30_1 (x0 : Int) : Am.runN tab ext30 false 20 [] 2000 [] [] [0, 3] [] [false] [.code b30] (entE 0 0 sig30 (x0, ())) (entL sig30 (x0, ())) = some (cutAt b30 4, E30_4 (ByteArray.mk #[]) (x0), L30_4 (ByteArray.mk #[]) (x0), [Decidable.decide (x0 ≤ 0) = Bool.false]) := by kernel_rfl
theorem p30_2 (v3 : ByteArray) (x0 : Int) : Am.runN tab ext30 false 20 [] 2000 [] [] [0, 3] [] [true] (cutAt b30 4) (E30_4 v3 x0) (L30_4 v3 x0) = some (cutAt b30 4, E30_4 (bytesStr [48 + Int.tmod x0 10] ++ v3) (Int.tdiv x0 10), L30_4 (bytesStr [48 + Int.tmod x0 10] ++ v3) (Int.tdiv x0 10), [Decidable.decide (x0 > 0) = Bool.true, (10 : Int) ≠ (0 : Int), InR IntKind.i64 (Int.tmod x0 10), InR IntKind.i64 (48 + Int.tmod x0 10), InR IntKind.u8 (48 + Int.tmod x0 10), ByteArray.size (bytesStr [48 + Int.tmod x0 10]) + ByteArray.size v3 ≤ 9223372036854775807, (10 : Int) ≠ (0 : Int), InR IntKind.i64 (Int.tdiv x0 10)]) := by kernel_rfl
theorem p30_3 (v3 : ByteArray) (x0 : Int) : runF tab ext30 false 20 [] 2000 [] tys30 Try.f30.results [false] (cutAt b30 4) (E30_4 v3 x0) (L30_4 v3 x0) = some ([Dyn.mk Ty.str (ByteArray.mk #[109] ++ v3)], [], [Decidable.decide (x0 > 0) = Bool.false, 1 + ByteArray.size v3 ≤ 9223372036854775807]) := by kernel_rfl
theorem snd30 : ∀ n, (∀ (x0 : Int) ds, R30 n x0 ds → ∀ w0 O q, AtV Try.prog 30 (PostR ds [] [] q w0 O) 20 w0 O q [] [.code b30] (entE 0 0 sig30 (x0, ())) (entL sig30 (x0, ()))) ∧ (∀ (v3 : ByteArray) (x0 : Int) ds, R30_4 n v3 x0 ds → ∀ w0 O q, AtV Try.prog 30 (PostR ds [] [] q w0 O) 20 w0 O q [] (cutAt b30 4) (E30_4 v3 x0) (L30_4 v3 x0)) := by
  intro n
  induction n with
  | zero => exact ⟨fun _ _ h => by simp only [R30] at h, fun _ _ _ h => by simp only [R30_4] at h⟩
  | succ n ih =>
  obtain ⟨ih, ih4⟩ := ih
  refine ⟨?_, ?_⟩
  · intro x0 ds h w0 O q
    rw [R30] at h
    by_cases b0 : (Decidable.decide (x0 ≤ 0)) = true
    · rw [if_pos b0] at h
      subst h
      exact AtV.fin Try.func30 tabOk ext30Ok mixed (p30_0 x0) ⟨b0, trivial⟩
    · rw [if_neg b0] at h
      replace b0 := Bool.eq_false_iff.2 b0
      exact AtV.runN tabOk ext30Ok mixed (p30_1 x0) ⟨b0, trivial⟩ (ih4 _ _ _ h w0 O q)

  · intro v3 x0 ds h w0 O q
    rw [R30_4] at h
    by_cases b0 : (Decidable.decide (x0 > 0)) = true
    · rw [if_pos b0] at h
      obtain ⟨s0, h⟩ := h
      obtain ⟨s1, h⟩ := h
      obtain ⟨s2, h⟩ := h
      obtain ⟨s3, h⟩ := h
      obtain ⟨s4, h⟩ := h
      exact AtV.runN tabOk ext30Ok mixed (p30_2 v3 x0) ⟨b0, (by decide), s0, s1, s2, s3, (by decide), s4, trivial⟩ (ih4 _ _ _ h w0 O q)
    · rw [if_neg b0] at h
      replace b0 := Bool.eq_false_iff.2 b0
      obtain ⟨s0, h⟩ := h
      subst h
      exact AtV.fin Try.func30 tabOk ext30Ok mixed (p30_3 v3 x0) ⟨b0, s0, trivial⟩



def loop30 : Nat → ByteArray → Int → ByteArray
  | 0, v, _ => v
  | n + 1, v, x => if 0 < x then loop30 n (bytesStr [48 + Int.tmod x 10] ++ v) (Int.tdiv x 10) else v

theorem run30 : ∀ (n : Nat) (v : ByteArray) (x : Int), x < 10 ^ n → InR .i64 x → v.size + n ≤ 1000 → R30_4 (n + 1) v x [⟨.str, ByteArray.mk #[109] ++ loop30 n v x⟩] := by
  intro n
  induction n with
  | zero =>
    intro v x h1 _ h2
    rw [R30_4, if_neg (by simp at h1 ⊢; omega)]
    exact ⟨by omega, rfl⟩
  | succ n ih =>
    intro v x h1 hi h2
    rw [i64_iff] at hi
    rw [R30_4]
    by_cases hx : 0 < x
    · rw [if_pos (by simpa using hx)]
      have e1 : Int.tmod x 10 = x % 10 := Int.tmod_eq_emod_of_nonneg (by omega)
      have e2 : Int.tdiv x 10 = x / 10 := Int.tdiv_eq_ediv_of_nonneg (by omega)
      have hs : (bytesStr [48 + Int.tmod x 10]).size = 1 := bytesStr_size _
      have hp : (10 : Int) ^ (n + 1) = 10 * 10 ^ n := by rw [Int.pow_succ, Int.mul_comm]
      refine ⟨by rw [i64_iff, e1]; omega, by rw [i64_iff, e1]; omega, by rw [u8_iff, e1]; omega, by rw [hs]; omega, by rw [i64_iff, e2]; omega, ?_⟩
      have := ih (bytesStr [48 + Int.tmod x 10] ++ v) (Int.tdiv x 10) (by rw [e2]; omega) (by rw [i64_iff, e2]; omega) (by rw [ByteArray.size_append, hs]; omega)
      simp only [loop30, if_pos hx]
      exact this
    · rw [if_neg (by simp; omega)]
      simp only [loop30, if_neg hx]
      exact ⟨by omega, trivial⟩

def g30_0 (x0 : Int) : ByteArray := if x0 ≤ 0 then ByteArray.mk #[109, 48] else ByteArray.mk #[109] ++ loop30 19 (ByteArray.mk #[]) x0
def P30 (x0 : Int) : Prop := True

theorem top30 (x0 : Int) (hi : InR .i64 x0) : R30 21 x0 [⟨.str, g30_0 x0⟩] := by
  rw [R30]
  unfold g30_0
  by_cases h : x0 ≤ 0
  · rw [if_pos (by simpa using h), if_pos h]
  · rw [if_neg (by simpa using h), if_neg h]
    have hi' := hi
    rw [i64_iff] at hi'
    exact run30 19 _ x0 (by omega) hi (by decide)

def S30 : Am.Spec := { sig := sig30, pre := fun ⟨x0, _⟩ => P30 x0, res := fun ⟨x0, _⟩ => [⟨.str, g30_0 x0⟩] }
theorem con30 : Contract Try.prog 30 S30 := contract_of Try.func30 hb30 (Nat.le_of_ble_eq_true (by kernel_rfl)) (fun ⟨x0, _⟩ h hwf w0 O q =>
  (snd30 _).1 x0 _ (top30 x0 hwf.1) w0 O q)

end Go.Proofs.Ytncnaaoifbhkjaa

/- Function 18 (laws.markStringS): its runs between cut points. Written by a program of this repo (gen). -/
set_option linter.unusedVariables false
set_option linter.unusedSimpArgs false
set_option maxRecDepth 100000
namespace Go.Proofs.Ytncnaaoifbhkjaa
open Go Go.Am Go.Proofs
def ext18 : Ext := [(30, S30)]
theorem call18_30 : Callable Try.prog 30 := ⟨Try.f30, Try.func30, by kernel_rfl, by kernel_rfl⟩
theorem ext18Ok : ExtOk Try.prog ext18 := ⟨⟨call18_30, con30⟩, trivial⟩
/-! Function 18. -/
noncomputable def b18 : Code := bodyOf Try.f18
theorem hb18 : Try.f18.body = some b18 := by kernel_rfl
def sig18 : List AT := [AT.own Ty.str, AT.v (Ty.int IntKind.i64)]
def tys18 : List Ty := [Ty.int IntKind.i64]
def E18_2 (v5 : Int) (x1 : Int) (x0 : List ByteArray) : Env := [(0, PV.a (Atom.osl 0 Option.none)), (1, PV.a (Atom.val (Value.int IntKind.i64 x1))), (5, PV.a (Atom.val (Value.int IntKind.i64 v5)))]
def L18_2 (v5 : Int) (x1 : Int) (x0 : List ByteArray) : Heap := [Option.some (Arr.mk Ty.str x0 Bool.false)]
mutual
def R18 : Nat → List ByteArray → Int → List Dyn → List (Option Lst) → Prop
  | 0, _, _, _, _ => False
  | n + 1, x0, x1, ds, us => (R18_2 n (0) (x1) (x0) ds us)
def R18_2 : Nat → Int → Int → List ByteArray → List Dyn → List (Option Lst) → Prop
  | 0, _, _, _, _, _ => False
  | n + 1, v5, x1, x0, ds, us => (if (Decidable.decide (v5 < (↑(List.length x0) : Int))) = true then ((0 ≤ v5) ∧ (v5 < (↑(List.length x0) : Int)) ∧ ((InR IntKind.i64 (x1 + 1)) ∧ ((InR IntKind.i64 (v5 + 1)) ∧ (R18_2 n (v5 + 1) (x1 + 1) (List.set x0 (Int.toNat v5) (g30_0 x1)) ds us)))) else (ds = [Dyn.mk (Ty.int IntKind.i64) x1] ∧ us = [Option.some (Lst.mk Ty.str x0)]))
end
theorem p18_0 (x0 : List ByteArray) (x1 : Int) : Am.runN tab ext18 false 20 [] 2000 [0] [] [0, 1, 5] [true] [] [.code b18] (entE 0 0 sig18 (x0, x1, ())) (entL sig18 (x0, x1, ())) = some (cutAt b18 2, E18_2 (0) (x1) (x0), L18_2 (0) (x1) (x0), []) := by kernel_rfl
theorem p18_1 (v5 : Int) (x1 : Int) (x0 : List ByteArray) : Am.runN tab ext18 false 20 [] 2000 [0] [] [0, 1, 5] [true] [true] (cutAt b18 2) (E18_2 v5 x1 x0) (L18_2 v5 x1 x0) = some (cutAt b18 2, E18_2 (v5 + 1) (x1 + 1) (List.set x0 (Int.toNat v5) (g30_0 x1)), L18_2 (v5 + 1) (x1 + 1) (List.set x0 (Int.toNat v5) (g30_0 x1)), [Decidable.decide (v5 < (↑(List.length x0) : Int)) = Bool.true, True, 0 ≤ v5, v5 < (↑(List.length x0) : Int), InR IntKind.i64 (x1 + 1), InR IntKind.i64 (v5 + 1)]) := by kernel_rfl
theorem p18_2 (v5 : Int) (x1 : Int) (x0 : List ByteArray) : runF tab ext18 false 20 [] 2000 [0] tys18 Try.f18.results [false] (cutAt b18 2) (E18_2 v5 x1 x0) (L18_2 v5 x1 x0) = some ([Dyn.mk (Ty.int IntKind.i64) x1], [Option.some (Lst.mk Ty.str x0)], [Decidable.decide (v5 < (↑(List.length x0) : Int)) = Bool.false]) := by kernel_rfl
theorem snd18 : ∀ n, (∀ (x0 : List ByteArray) (x1 : Int) ds us, R18 n x0 x1 ds us → ∀ w0 O q, AtV Try.prog 18 (PostR ds us [0] q w0 O) 20 w0 O q [0] [.code b18] (entE 0 0 sig18 (x0, x1, ())) (entL sig18 (x0, x1, ()))) ∧ (∀ (v5 : Int) (x1 : Int) (x0 : List ByteArray) ds us, R18_2 n v5 x1 x0 ds us → ∀ w0 O q, AtV Try.prog 18 (PostR ds us [0] q w0 O) 20 w0 O q [0] (cutAt b18 2) (E18_2 v5 x1 x0) (L18_2 v5 x1 x0)) := by
  intro n
  induction n with
  | zero => exact ⟨fun _ _ _ _ h => by simp only [R18] at h, fun _ _ _ _ _ h => by simp only [R18_2] at h⟩
  | succ n ih =>
  obtain ⟨ih, ih2⟩ := ih
  refine ⟨?_, ?_⟩
  · intro x0 x1 ds us h w0 O q
    rw [R18] at h
    exact AtV.runN tabOk ext18Ok mixed (p18_0 x0 x1) trivial (ih2 _ _ _ _ _ h w0 O q)

  · intro v5 x1 x0 ds us h w0 O q
    rw [R18_2] at h
    by_cases b0 : (Decidable.decide (v5 < (↑(List.length x0) : Int))) = true
    · rw [if_pos b0] at h
      obtain ⟨s0, s1, h⟩ := h
      obtain ⟨s2, h⟩ := h
      obtain ⟨s3, h⟩ := h
      exact AtV.runN tabOk ext18Ok mixed (p18_1 v5 x1 x0) ⟨b0, trivial, s0, s1, s2, s3, trivial⟩ (ih2 _ _ _ _ _ h w0 O q)
    · rw [if_neg b0] at h
      replace b0 := Bool.eq_false_iff.2 b0
      obtain ⟨h, h'⟩ := h; subst h; subst h'
      exact AtV.fin Try.func18 tabOk ext18Ok mixed (p18_2 v5 x1 x0) ⟨b0, trivial⟩



def M18 (x1 : Int) (n : Nat) : List ByteArray := (List.range n).map fun (j : Nat) => g30_0 (x1 + (j : Int))

theorem M18_len (x1 : Int) (n : Nat) : (M18 x1 n).length = n := by simp [M18]

theorem M18_step (x1 : Int) (x0 : List ByteArray) (i : Nat) (h : i < x0.length) : (M18 x1 i ++ x0.drop i).set i (g30_0 (x1 + (i : Int))) = M18 x1 (i + 1) ++ x0.drop (i + 1) := by
  rw [List.set_append_right _ _ (by rw [M18_len]; exact Nat.le_refl _), M18_len, Nat.sub_self, List.drop_eq_getElem_cons h, List.set_cons_zero]
  simp [M18, List.range_succ]

theorem run18 (x0 : List ByteArray) (x1 : Int) (hm : x0.length ≤ maxLen) (h0 : 0 ≤ x1) (h1 : x1 + x0.length ≤ 9223372036854775807) : ∀ (k i : Nat), i + k = x0.length →
    R18_2 (k + 1) (i : Int) (x1 + (i : Int)) (M18 x1 i ++ x0.drop i) [⟨.int .i64, x1 + (x0.length : Int)⟩] [some ⟨.str, M18 x1 x0.length⟩] := by
  intro k
  induction k with
  | zero =>
    intro i hi
    have hl : (M18 x1 i ++ x0.drop i).length = x0.length := by simp [M18_len]; omega
    rw [R18_2, if_neg (by rw [hl]; simp; omega), drop_end x0 i (by omega), List.append_nil]
    have : i = x0.length := by omega
    subst this
    exact ⟨rfl, rfl⟩
  | succ k ih =>
    intro i hi
    have hl : (M18 x1 i ++ x0.drop i).length = x0.length := by simp [M18_len]; omega
    rw [R18_2, if_pos (by rw [hl]; simp; omega), hl]
    simp only [Int.toNat_natCast]
    refine ⟨by omega, by omega, by rw [i64_iff]; omega, inR_up hm (by omega), ?_⟩
    rw [M18_step x1 x0 i (by omega), Int.add_assoc]
    exact ih (i + 1) (by omega)

def P18 (x0 : List ByteArray) (x1 : Int) : Prop := 0 ≤ x1 ∧ x1 + x0.length ≤ 9223372036854775807
def g18_0 (x0 : List ByteArray) (x1 : Int) : Int := x1 + (x0.length : Int)
def u18_0 (x0 : List ByteArray) (x1 : Int) : List ByteArray := M18 x1 x0.length

theorem top18 (x0 : List ByteArray) (x1 : Int) (hm : x0.length ≤ maxLen) (h : P18 x0 x1) : R18 (x0.length + 1 + 1) x0 x1 [⟨.int .i64, g18_0 x0 x1⟩] [some ⟨.str, u18_0 x0 x1⟩] := by
  rw [R18]
  have := run18 x0 x1 hm h.1 h.2 x0.length 0 (by omega)
  simpa [M18, g18_0, u18_0] using this

def S18 : Am.Spec := { sig := sig18, pre := fun ⟨x0, x1, _⟩ => P18 x0 x1, upd := fun ⟨x0, x1, _⟩ => [some ⟨.str, u18_0 x0 x1⟩], res := fun ⟨x0, x1, _⟩ => [⟨.int .i64, g18_0 x0 x1⟩] }
theorem con18 : Contract Try.prog 18 S18 := contract_of Try.func18 hb18 (Nat.le_of_ble_eq_true (by kernel_rfl)) (fun ⟨x0, x1, _⟩ h hwf w0 O q =>
  (snd18 _).1 x0 x1 _ _ (top18 x0 x1 hwf.1.1 h) w0 O q)

end Go.Proofs.Ytncnaaoifbhkjaa

/- Function 19 (laws.markInt64S): its runs between cut points. Written by a program of this repo (gen). -/
set_option linter.unusedVariables false
set_option linter.unusedSimpArgs false
set_option maxRecDepth 100000
namespace Go.Proofs.Ytncnaaoifbhkjaa
open Go Go.Am Go.Proofs
def ext19 : Ext := []
theorem ext19Ok : ExtOk Try.prog ext19 := trivial
/-! Function 19. -/
noncomputable def b19 : Code := bodyOf Try.f19
theorem hb19 : Try.f19.body = some b19 := by kernel_rfl
def sig19 : List AT := [AT.own (Ty.int IntKind.i64), AT.v (Ty.int IntKind.i64)]
def tys19 : List Ty := [Ty.int IntKind.i64]
def E19_2 (v5 : Int) (x1 : Int) (x0 : List Int) : Env := [(0, PV.a (Atom.osl 0 Option.none)), (1, PV.a (Atom.val (Value.int IntKind.i64 x1))), (5, PV.a (Atom.val (Value.int IntKind.i64 v5)))]
def L19_2 (v5 : Int) (x1 : Int) (x0 : List Int) : Heap := [Option.some (Arr.mk (Ty.int IntKind.i64) x0 Bool.false)]
mutual
def R19 : Nat → List Int → Int → List Dyn → List (Option Lst) → Prop
  | 0, _, _, _, _ => False
  | n + 1, x0, x1, ds, us => (R19_2 n (0) (x1) (x0) ds us)
def R19_2 : Nat → Int → Int → List Int → List Dyn → List (Option Lst) → Prop
  | 0, _, _, _, _, _ => False
  | n + 1, v5, x1, x0, ds, us => (if (Decidable.decide (v5 < (↑(List.length x0) : Int))) = true then ((0 ≤ v5) ∧ (v5 < (↑(List.length x0) : Int)) ∧ ((InR IntKind.i64 (x1 + 1)) ∧ ((InR IntKind.i64 (v5 + 1)) ∧ (R19_2 n (v5 + 1) (x1 + 1) (List.set x0 (Int.toNat v5) x1) ds us)))) else (ds = [Dyn.mk (Ty.int IntKind.i64) x1] ∧ us = [Option.some (Lst.mk (Ty.int IntKind.i64) x0)]))
end
theorem p19_0 (x0 : List Int) (x1 : Int) : Am.runN tab ext19 false 19 [] 2000 [0] [] [0, 1, 5] [true] [] [.code b19] (entE 0 0 sig19 (x0, x1, ())) (entL sig19 (x0, x1, ())) = some (cutAt b19 2, E19_2 (0) (x1) (x0), L19_2 (0) (x1) (x0), []) := by kernel_rfl
theorem p19_1 (v5 : Int) (x1 : Int) (x0 : List Int) : Am.runN tab ext19 false 19 [] 2000 [0] [] [0, 1, 5] [true] [true] (cutAt b19 2) (E19_2 v5 x1 x0) (L19_2 v5 x1 x0) = some (cutAt b19 2, E19_2 (v5 + 1) (x1 + 1) (List.set x0 (Int.toNat v5) x1), L19_2 (v5 + 1) (x1 + 1) (List.set x0 (Int.toNat v5) x1), [Decidable.decide (v5 < (↑(List.length x0) : Int)) = Bool.true, 0 ≤ v5, v5 < (↑(List.length x0) : Int), InR IntKind.i64 (x1 + 1), InR IntKind.i64 (v5 + 1)]) := by kernel_rfl
theorem p19_2 (v5 : Int) (x1 : Int) (x0 : List Int) : runF tab ext19 false 19 [] 2000 [0] tys19 Try.f19.results [false] (cutAt b19 2) (E19_2 v5 x1 x0) (L19_2 v5 x1 x0) = some ([Dyn.mk (Ty.int IntKind.i64) x1], [Option.some (Lst.mk (Ty.int IntKind.i64) x0)], [Decidable.decide (v5 < (↑(List.length x0) : Int)) = Bool.false]) := by kernel_rfl
theorem snd19 : ∀ n, (∀ (x0 : List Int) (x1 : Int) ds us, R19 n x0 x1 ds us → ∀ w0 O q, AtV Try.prog 19 (PostR ds us [0] q w0 O) 19 w0 O q [0] [.code b19] (entE 0 0 sig19 (x0, x1, ())) (entL sig19 (x0, x1, ()))) ∧ (∀ (v5 : Int) (x1 : Int) (x0 : List Int) ds us, R19_2 n v5 x1 x0 ds us → ∀ w0 O q, AtV Try.prog 19 (PostR ds us [0] q w0 O) 19 w0 O q [0] (cutAt b19 2) (E19_2 v5 x1 x0) (L19_2 v5 x1 x0)) := by
  intro n
  induction n with
  | zero => exact ⟨fun _ _ _ _ h => by simp only [R19] at h, fun _ _ _ _ _ h => by simp only [R19_2] at h⟩
  | succ n ih =>
  obtain ⟨ih, ih2⟩ := ih
  refine ⟨?_, ?_⟩
  · intro x0 x1 ds us h w0 O q
    rw [R19] at h
    exact AtV.runN tabOk ext19Ok mixed (p19_0 x0 x1) trivial (ih2 _ _ _ _ _ h w0 O q)

  · intro v5 x1 x0 ds us h w0 O q
    rw [R19_2] at h
    by_cases b0 : (Decidable.decide (v5 < (↑(List.length x0) : Int))) = true
    · rw [if_pos b0] at h
      obtain ⟨s0, s1, h⟩ := h
      obtain ⟨s2, h⟩ := h
      obtain ⟨s3, h⟩ := h
      exact AtV.runN tabOk ext19Ok mixed (p19_1 v5 x1 x0) ⟨b0, s0, s1, s2, s3, trivial⟩ (ih2 _ _ _ _ _ h w0 O q)
    · rw [if_neg b0] at h
      replace b0 := Bool.eq_false_iff.2 b0
      obtain ⟨h, h'⟩ := h; subst h; subst h'
      exact AtV.fin Try.func19 tabOk ext19Ok mixed (p19_2 v5 x1 x0) ⟨b0, trivial⟩



def M19 (x1 : Int) (n : Nat) : List Int := (List.range n).map fun (j : Nat) => x1 + (j : Int)

theorem M19_len (x1 : Int) (n : Nat) : (M19 x1 n).length = n := by simp [M19]

theorem M19_step (x1 : Int) (x0 : List Int) (i : Nat) (h : i < x0.length) : (M19 x1 i ++ x0.drop i).set i (x1 + (i : Int)) = M19 x1 (i + 1) ++ x0.drop (i + 1) := by
  rw [List.set_append_right _ _ (by rw [M19_len]; exact Nat.le_refl _), M19_len, Nat.sub_self, List.drop_eq_getElem_cons h, List.set_cons_zero]
  simp [M19, List.range_succ]

theorem run19 (x0 : List Int) (x1 : Int) (hm : x0.length ≤ maxLen) (h0 : 0 ≤ x1) (h1 : x1 + x0.length ≤ 9223372036854775807) : ∀ (k i : Nat), i + k = x0.length →
    R19_2 (k + 1) (i : Int) (x1 + (i : Int)) (M19 x1 i ++ x0.drop i) [⟨.int .i64, x1 + (x0.length : Int)⟩] [some ⟨.int .i64, M19 x1 x0.length⟩] := by
  intro k
  induction k with
  | zero =>
    intro i hi
    have hl : (M19 x1 i ++ x0.drop i).length = x0.length := by simp [M19_len]; omega
    rw [R19_2, if_neg (by rw [hl]; simp; omega), drop_end x0 i (by omega), List.append_nil]
    have : i = x0.length := by omega
    subst this
    exact ⟨rfl, rfl⟩
  | succ k ih =>
    intro i hi
    have hl : (M19 x1 i ++ x0.drop i).length = x0.length := by simp [M19_len]; omega
    rw [R19_2, if_pos (by rw [hl]; simp; omega), hl]
    simp only [Int.toNat_natCast]
    refine ⟨by omega, by omega, by rw [i64_iff]; omega, inR_up hm (by omega), ?_⟩
    rw [M19_step x1 x0 i (by omega), Int.add_assoc]
    exact ih (i + 1) (by omega)

def P19 (x0 : List Int) (x1 : Int) : Prop := 0 ≤ x1 ∧ x1 + x0.length ≤ 9223372036854775807
def g19_0 (x0 : List Int) (x1 : Int) : Int := x1 + (x0.length : Int)
def u19_0 (x0 : List Int) (x1 : Int) : List Int := M19 x1 x0.length

theorem top19 (x0 : List Int) (x1 : Int) (hm : x0.length ≤ maxLen) (h : P19 x0 x1) : R19 (x0.length + 1 + 1) x0 x1 [⟨.int .i64, g19_0 x0 x1⟩] [some ⟨.int .i64, u19_0 x0 x1⟩] := by
  rw [R19]
  have := run19 x0 x1 hm h.1 h.2 x0.length 0 (by omega)
  simpa [M19, g19_0, u19_0] using this

def S19 : Am.Spec := { sig := sig19, pre := fun ⟨x0, x1, _⟩ => P19 x0 x1, upd := fun ⟨x0, x1, _⟩ => [some ⟨.int .i64, u19_0 x0 x1⟩], res := fun ⟨x0, x1, _⟩ => [⟨.int .i64, g19_0 x0 x1⟩] }
theorem con19 : Contract Try.prog 19 S19 := contract_of Try.func19 hb19 (Nat.le_of_ble_eq_true (by kernel_rfl)) (fun ⟨x0, x1, _⟩ h hwf w0 O q =>
  (snd19 _).1 x0 x1 _ _ (top19 x0 x1 hwf.1.1 h) w0 O q)

end Go.Proofs.Ytncnaaoifbhkjaa

/- Function 20 (laws.heldStringS): its runs between cut points. Written by a program of this repo (gen). -/
set_option linter.unusedVariables false
set_option linter.unusedSimpArgs false
set_option maxRecDepth 100000
namespace Go.Proofs.Ytncnaaoifbhkjaa
open Go Go.Am Go.Proofs
def ext20 : Ext := [(30, S30)]
theorem call20_30 : Callable Try.prog 30 := ⟨Try.f30, Try.func30, by kernel_rfl, by kernel_rfl⟩
theorem ext20Ok : ExtOk Try.prog ext20 := ⟨⟨call20_30, con30⟩, trivial⟩
/-! Function 20. -/
noncomputable def b20 : Code := bodyOf Try.f20
theorem hb20 : Try.f20.body = some b20 := by kernel_rfl
def sig20 : List AT := [AT.v (Ty.sl Ty.str), AT.v (Ty.int IntKind.i64)]
def tys20 : List Ty := [Ty.int IntKind.i64]
def E20_2 (v5 : Int) (x0 : List ByteArray) (x1 : Int) : Env := [(0, PV.a (Atom.sl Ty.str x0)), (1, PV.a (Atom.val (Value.int IntKind.i64 x1))), (5, PV.a (Atom.val (Value.int IntKind.i64 v5)))]
def L20_2 (v5 : Int) (x0 : List ByteArray) (x1 : Int) : Heap := []
mutual
def R20 : Nat → List ByteArray → Int → List Dyn → Prop
  | 0, _, _, _ => False
  | n + 1, x0, x1, ds => (R20_2 n (0) (x0) (x1) ds)
def R20_2 : Nat → Int → List ByteArray → Int → List Dyn → Prop
  | 0, _, _, _, _ => False
  | n + 1, v5, x0, x1, ds => (if (Decidable.decide (v5 < (↑(List.length x0) : Int))) = true then ((0 ≤ v5) ∧ (v5 < (↑(List.length x0) : Int)) ∧ (if (!ByteArray.toList (List.getD x0 (Int.toNat v5) ByteArray.empty) == ByteArray.toList (g30_0 x1)) = true then (ds = [Dyn.mk (Ty.int IntKind.i64) (-1)]) else ((InR IntKind.i64 (x1 + 1)) ∧ ((InR IntKind.i64 (v5 + 1)) ∧ (R20_2 n (v5 + 1) (x0) (x1 + 1) ds))))) else (ds = [Dyn.mk (Ty.int IntKind.i64) x1]))
end
theorem p20_0 (x0 : List ByteArray) (x1 : Int) : Am.runN tab ext20 false 22 [] 2000 [] [] [0, 1, 5] [] [] [.code b20] (entE 0 0 sig20 (x0, x1, ())) (entL sig20 (x0, x1, ())) = some (cutAt b20 2, E20_2 (0) (x0) (x1), L20_2 (0) (x0) (x1), []) := by kernel_rfl
theorem p20_1 (v5 : Int) (x0 : List ByteArray) (x1 : Int) : runF tab ext20 false 22 [] 2000 [] tys20 Try.f20.results [true, true] (cutAt b20 2) (E20_2 v5 x0 x1) (L20_2 v5 x0 x1) = some ([Dyn.mk (Ty.int IntKind.i64) (-1)], [], [Decidable.decide (v5 < (↑(List.length x0) : Int)) = Bool.true, 0 ≤ v5, v5 < (↑(List.length x0) : Int), True, (!ByteArray.toList (List.getD x0 (Int.toNat v5) ByteArray.empty) == ByteArray.toList (g30_0 x1)) = Bool.true]) := by kernel_rfl
theorem p20_2 (v5 : Int) (x0 : List ByteArray) (x1 : Int) : Am.runN tab ext20 false 22 [] 2000 [] [] [0, 1, 5] [] [true, false] (cutAt b20 2) (E20_2 v5 x0 x1) (L20_2 v5 x0 x1) = some (cutAt b20 2, E20_2 (v5 + 1) (x0) (x1 + 1), L20_2 (v5 + 1) (x0) (x1 + 1), [Decidable.decide (v5 < (↑(List.length x0) : Int)) = Bool.true, 0 ≤ v5, v5 < (↑(List.length x0) : Int), True, (!ByteArray.toList (List.getD x0 (Int.toNat v5) ByteArray.empty) == ByteArray.toList (g30_0 x1)) = Bool.false, InR IntKind.i64 (x1 + 1), InR IntKind.i64 (v5 + 1)]) := by kernel_rfl
theorem p20_3 (v5 : Int) (x0 : List ByteArray) (x1 : Int) : runF tab ext20 false 22 [] 2000 [] tys20 Try.f20.results [false] (cutAt b20 2) (E20_2 v5 x0 x1) (L20_2 v5 x0 x1) = some ([Dyn.mk (Ty.int IntKind.i64) x1], [], [Decidable.decide (v5 < (↑(List.length x0) : Int)) = Bool.false]) := by kernel_rfl
theorem snd20 : ∀ n, (∀ (x0 : List ByteArray) (x1 : Int) ds, R20 n x0 x1 ds → ∀ w0 O q, AtV Try.prog 20 (PostR ds [] [] q w0 O) 22 w0 O q [] [.code b20] (entE 0 0 sig20 (x0, x1, ())) (entL sig20 (x0, x1, ()))) ∧ (∀ (v5 : Int) (x0 : List ByteArray) (x1 : Int) ds, R20_2 n v5 x0 x1 ds → ∀ w0 O q, AtV Try.prog 20 (PostR ds [] [] q w0 O) 22 w0 O q [] (cutAt b20 2) (E20_2 v5 x0 x1) (L20_2 v5 x0 x1)) := by
  intro n
  induction n with
  | zero => exact ⟨fun _ _ _ h => by simp only [R20] at h, fun _ _ _ _ h => by simp only [R20_2] at h⟩
  | succ n ih =>
  obtain ⟨ih, ih2⟩ := ih
  refine ⟨?_, ?_⟩
  · intro x0 x1 ds h w0 O q
    rw [R20] at h
    exact AtV.runN tabOk ext20Ok mixed (p20_0 x0 x1) trivial (ih2 _ _ _ _ h w0 O q)

  · intro v5 x0 x1 ds h w0 O q
    rw [R20_2] at h
    by_cases b0 : (Decidable.decide (v5 < (↑(List.length x0) : Int))) = true
    · rw [if_pos b0] at h
      obtain ⟨s0, s1, h⟩ := h
      by_cases b1 : (!ByteArray.toList (List.getD x0 (Int.toNat v5) ByteArray.empty) == ByteArray.toList (g30_0 x1)) = true
      · rw [if_pos b1] at h
        subst h
        exact AtV.fin Try.func20 tabOk ext20Ok mixed (p20_1 v5 x0 x1) ⟨b0, s0, s1, trivial, b1, trivial⟩
      · rw [if_neg b1] at h
        replace b1 := Bool.eq_false_iff.2 b1
        obtain ⟨s2, h⟩ := h
        obtain ⟨s3, h⟩ := h
        exact AtV.runN tabOk ext20Ok mixed (p20_2 v5 x0 x1) ⟨b0, s0, s1, trivial, b1, s2, s3, trivial⟩ (ih2 _ _ _ _ h w0 O q)
    · rw [if_neg b0] at h
      replace b0 := Bool.eq_false_iff.2 b0
      subst h
      exact AtV.fin Try.func20 tabOk ext20Ok mixed (p20_3 v5 x0 x1) ⟨b0, trivial⟩



theorem run20 (x0 : List ByteArray) (x1 : Int) (hm : x0.length ≤ maxLen) (h0 : 0 ≤ x1) (h1 : x1 + x0.length ≤ 9223372036854775807) (he : ∀ i : Nat, i < x0.length → x0.getD i ByteArray.empty = g30_0 (x1 + (i : Int))) : ∀ (k i : Nat), i + k = x0.length →
    R20_2 (k + 1) (i : Int) x0 (x1 + (i : Int)) [⟨.int .i64, x1 + (x0.length : Int)⟩] := by
  intro k
  induction k with
  | zero =>
    intro i hi
    rw [R20_2, if_neg (by simp; omega)]
    have : i = x0.length := by omega
    subst this
    rfl
  | succ k ih =>
    intro i hi
    rw [R20_2, if_pos (by simp; omega)]
    simp only [Int.toNat_natCast]
    have hb := (bytes_eq _ _).2 (he i (by omega))
    refine ⟨by omega, by omega, ?_⟩
    rw [if_neg (by rw [hb]; simp)]
    refine ⟨by rw [i64_iff]; omega, inR_up hm (by omega), ?_⟩
    rw [Int.add_assoc]
    exact ih (i + 1) (by omega)

def P20 (x0 : List ByteArray) (x1 : Int) : Prop := (0 ≤ x1 ∧ x1 + x0.length ≤ 9223372036854775807) ∧ ∀ i : Nat, i < x0.length → x0.getD i ByteArray.empty = g30_0 (x1 + (i : Int))
def g20_0 (x0 : List ByteArray) (x1 : Int) : Int := x1 + (x0.length : Int)

theorem top20 (x0 : List ByteArray) (x1 : Int) (hm : x0.length ≤ maxLen) (h : P20 x0 x1) : R20 (x0.length + 1 + 1) x0 x1 [⟨.int .i64, g20_0 x0 x1⟩] := by
  rw [R20]
  have := run20 x0 x1 hm h.1.1 h.1.2 h.2 x0.length 0 (by omega)
  simpa [g20_0] using this

def S20 : Am.Spec := { sig := sig20, pre := fun ⟨x0, x1, _⟩ => P20 x0 x1, res := fun ⟨x0, x1, _⟩ => [⟨.int .i64, g20_0 x0 x1⟩] }
theorem con20 : Contract Try.prog 20 S20 := contract_of Try.func20 hb20 (Nat.le_of_ble_eq_true (by kernel_rfl)) (fun ⟨x0, x1, _⟩ h hwf w0 O q =>
  (snd20 _).1 x0 x1 _ (top20 x0 x1 hwf.1.1 h) w0 O q)

end Go.Proofs.Ytncnaaoifbhkjaa

/- Function 21 (laws.heldInt64S): its runs between cut points. Written by a program of this repo (gen). -/
set_option linter.unusedVariables false
set_option linter.unusedSimpArgs false
set_option maxRecDepth 100000
namespace Go.Proofs.Ytncnaaoifbhkjaa
open Go Go.Am Go.Proofs
def ext21 : Ext := []
theorem ext21Ok : ExtOk Try.prog ext21 := trivial
/-! Function 21. -/
noncomputable def b21 : Code := bodyOf Try.f21
theorem hb21 : Try.f21.body = some b21 := by kernel_rfl
def sig21 : List AT := [AT.v (Ty.sl (Ty.int IntKind.i64)), AT.v (Ty.int IntKind.i64)]
def tys21 : List Ty := [Ty.int IntKind.i64]
def E21_2 (v5 : Int) (x0 : List Int) (x1 : Int) : Env := [(0, PV.a (Atom.sl (Ty.int IntKind.i64) x0)), (1, PV.a (Atom.val (Value.int IntKind.i64 x1))), (5, PV.a (Atom.val (Value.int IntKind.i64 v5)))]
def L21_2 (v5 : Int) (x0 : List Int) (x1 : Int) : Heap := []
mutual
def R21 : Nat → List Int → Int → List Dyn → Prop
  | 0, _, _, _ => False
  | n + 1, x0, x1, ds => (R21_2 n (0) (x0) (x1) ds)
def R21_2 : Nat → Int → List Int → Int → List Dyn → Prop
  | 0, _, _, _, _ => False
  | n + 1, v5, x0, x1, ds => (if (Decidable.decide (v5 < (↑(List.length x0) : Int))) = true then ((0 ≤ v5) ∧ (v5 < (↑(List.length x0) : Int)) ∧ (if (List.getD x0 (Int.toNat v5) 0 != x1) = true then (ds = [Dyn.mk (Ty.int IntKind.i64) (-1)]) else ((InR IntKind.i64 (x1 + 1)) ∧ ((InR IntKind.i64 (v5 + 1)) ∧ (R21_2 n (v5 + 1) (x0) (x1 + 1) ds))))) else (ds = [Dyn.mk (Ty.int IntKind.i64) x1]))
end
theorem p21_0 (x0 : List Int) (x1 : Int) : Am.runN tab ext21 false 21 [] 2000 [] [] [0, 1, 5] [] [] [.code b21] (entE 0 0 sig21 (x0, x1, ())) (entL sig21 (x0, x1, ())) = some (cutAt b21 2, E21_2 (0) (x0) (x1), L21_2 (0) (x0) (x1), []) := by kernel_rfl
theorem p21_1 (v5 : Int) (x0 : List Int) (x1 : Int) : runF tab ext21 false 21 [] 2000 [] tys21 Try.f21.results [true, true] (cutAt b21 2) (E21_2 v5 x0 x1) (L21_2 v5 x0 x1) = some ([Dyn.mk (Ty.int IntKind.i64) (-1)], [], [Decidable.decide (v5 < (↑(List.length x0) : Int)) = Bool.true, 0 ≤ v5, v5 < (↑(List.length x0) : Int), (List.getD x0 (Int.toNat v5) 0 != x1) = Bool.true]) := by kernel_rfl
theorem p21_2 (v5 : Int) (x0 : List Int) (x1 : Int) : Am.runN tab ext21 false 21 [] 2000 [] [] [0, 1, 5] [] [true, false] (cutAt b21 2) (E21_2 v5 x0 x1) (L21_2 v5 x0 x1) = some (cutAt b21 2, E21_2 (v5 + 1) (x0) (x1 + 1), L21_2 (v5 + 1) (x0) (x1 + 1), [Decidable.decide (v5 < (↑(List.length x0) : Int)) = Bool.true, 0 ≤ v5, v5 < (↑(List.length x0) : Int), (List.getD x0 (Int.toNat v5) 0 != x1) = Bool.false, InR IntKind.i64 (x1 + 1), InR IntKind.i64 (v5 + 1)]) := by kernel_rfl
theorem p21_3 (v5 : Int) (x0 : List Int) (x1 : Int) : runF tab ext21 false 21 [] 2000 [] tys21 Try.f21.results [false] (cutAt b21 2) (E21_2 v5 x0 x1) (L21_2 v5 x0 x1) = some ([Dyn.mk (Ty.int IntKind.i64) x1], [], [Decidable.decide (v5 < (↑(List.length x0) : Int)) = Bool.false]) := by kernel_rfl
theorem snd21 : ∀ n, (∀ (x0 : List Int) (x1 : Int) ds, R21 n x0 x1 ds → ∀ w0 O q, AtV Try.prog 21 (PostR ds [] [] q w0 O) 21 w0 O q [] [.code b21] (entE 0 0 sig21 (x0, x1, ())) (entL sig21 (x0, x1, ()))) ∧ (∀ (v5 : Int) (x0 : List Int) (x1 : Int) ds, R21_2 n v5 x0 x1 ds → ∀ w0 O q, AtV Try.prog 21 (PostR ds [] [] q w0 O) 21 w0 O q [] (cutAt b21 2) (E21_2 v5 x0 x1) (L21_2 v5 x0 x1)) := by
  intro n
  induction n with
  | zero => exact ⟨fun _ _ _ h => by simp only [R21] at h, fun _ _ _ _ h => by simp only [R21_2] at h⟩
  | succ n ih =>
  obtain ⟨ih, ih2⟩ := ih
  refine ⟨?_, ?_⟩
  · intro x0 x1 ds h w0 O q
    rw [R21] at h
    exact AtV.runN tabOk ext21Ok mixed (p21_0 x0 x1) trivial (ih2 _ _ _ _ h w0 O q)

  · intro v5 x0 x1 ds h w0 O q
    rw [R21_2] at h
    by_cases b0 : (Decidable.decide (v5 < (↑(List.length x0) : Int))) = true
    · rw [if_pos b0] at h
      obtain ⟨s0, s1, h⟩ := h
      by_cases b1 : (List.getD x0 (Int.toNat v5) 0 != x1) = true
      · rw [if_pos b1] at h
        subst h
        exact AtV.fin Try.func21 tabOk ext21Ok mixed (p21_1 v5 x0 x1) ⟨b0, s0, s1, b1, trivial⟩
      · rw [if_neg b1] at h
        replace b1 := Bool.eq_false_iff.2 b1
        obtain ⟨s2, h⟩ := h
        obtain ⟨s3, h⟩ := h
        exact AtV.runN tabOk ext21Ok mixed (p21_2 v5 x0 x1) ⟨b0, s0, s1, b1, s2, s3, trivial⟩ (ih2 _ _ _ _ h w0 O q)
    · rw [if_neg b0] at h
      replace b0 := Bool.eq_false_iff.2 b0
      subst h
      exact AtV.fin Try.func21 tabOk ext21Ok mixed (p21_3 v5 x0 x1) ⟨b0, trivial⟩



theorem run21 (x0 : List Int) (x1 : Int) (hm : x0.length ≤ maxLen) (h0 : 0 ≤ x1) (h1 : x1 + x0.length ≤ 9223372036854775807) (he : ∀ i : Nat, i < x0.length → x0.getD i 0 = x1 + (i : Int)) : ∀ (k i : Nat), i + k = x0.length →
    R21_2 (k + 1) (i : Int) x0 (x1 + (i : Int)) [⟨.int .i64, x1 + (x0.length : Int)⟩] := by
  intro k
  induction k with
  | zero =>
    intro i hi
    rw [R21_2, if_neg (by simp; omega)]
    have : i = x0.length := by omega
    subst this
    rfl
  | succ k ih =>
    intro i hi
    rw [R21_2, if_pos (by simp; omega)]
    simp only [Int.toNat_natCast]
    have hb := he i (by omega)
    refine ⟨by omega, by omega, ?_⟩
    rw [if_neg (by simp only [hb, bne_self_eq_false, Bool.false_eq_true, not_false_eq_true])]
    refine ⟨by rw [i64_iff]; omega, inR_up hm (by omega), ?_⟩
    rw [Int.add_assoc]
    exact ih (i + 1) (by omega)

def P21 (x0 : List Int) (x1 : Int) : Prop := (0 ≤ x1 ∧ x1 + x0.length ≤ 9223372036854775807) ∧ ∀ i : Nat, i < x0.length → x0.getD i 0 = x1 + (i : Int)
def g21_0 (x0 : List Int) (x1 : Int) : Int := x1 + (x0.length : Int)

theorem top21 (x0 : List Int) (x1 : Int) (hm : x0.length ≤ maxLen) (h : P21 x0 x1) : R21 (x0.length + 1 + 1) x0 x1 [⟨.int .i64, g21_0 x0 x1⟩] := by
  rw [R21]
  have := run21 x0 x1 hm h.1.1 h.1.2 h.2 x0.length 0 (by omega)
  simpa [g21_0] using this

def S21 : Am.Spec := { sig := sig21, pre := fun ⟨x0, x1, _⟩ => P21 x0 x1, res := fun ⟨x0, x1, _⟩ => [⟨.int .i64, g21_0 x0 x1⟩] }
theorem con21 : Contract Try.prog 21 S21 := contract_of Try.func21 hb21 (Nat.le_of_ble_eq_true (by kernel_rfl)) (fun ⟨x0, x1, _⟩ h hwf w0 O q =>
  (snd21 _).1 x0 x1 _ (top21 x0 x1 hwf.1.1 h) w0 O q)

end Go.Proofs.Ytncnaaoifbhkjaa

/- Function 4 (laws.FnExactCountLines): its runs between cut points. Written by a program of this repo (gen). -/
set_option linter.unusedVariables false
set_option linter.unusedSimpArgs false
set_option maxRecDepth 100000
namespace Go.Proofs.Ytncnaaoifbhkjaa
open Go Go.Am Go.Proofs
def ext4 : Ext := [(12, S12), (14, S14), (13, S13), (15, S15), (16, S16), (17, S17), (18, S18), (19, S19), (20, S20), (21, S21)]
theorem call4_12 : Callable Try.prog 12 := ⟨Try.f12, Try.func12, by kernel_rfl, by kernel_rfl⟩
theorem call4_14 : Callable Try.prog 14 := ⟨Try.f14, Try.func14, by kernel_rfl, by kernel_rfl⟩
theorem call4_13 : Callable Try.prog 13 := ⟨Try.f13, Try.func13, by kernel_rfl, by kernel_rfl⟩
theorem call4_15 : Callable Try.prog 15 := ⟨Try.f15, Try.func15, by kernel_rfl, by kernel_rfl⟩
theorem call4_16 : Callable Try.prog 16 := ⟨Try.f16, Try.func16, by kernel_rfl, by kernel_rfl⟩
theorem call4_17 : Callable Try.prog 17 := ⟨Try.f17, Try.func17, by kernel_rfl, by kernel_rfl⟩
theorem call4_18 : Callable Try.prog 18 := ⟨Try.f18, Try.func18, by kernel_rfl, by kernel_rfl⟩
theorem call4_19 : Callable Try.prog 19 := ⟨Try.f19, Try.func19, by kernel_rfl, by kernel_rfl⟩
theorem call4_20 : Callable Try.prog 20 := ⟨Try.f20, Try.func20, by kernel_rfl, by kernel_rfl⟩
theorem call4_21 : Callable Try.prog 21 := ⟨Try.f21, Try.func21, by kernel_rfl, by kernel_rfl⟩
theorem ext4Ok : ExtOk Try.prog ext4 := ⟨⟨call4_12, con12⟩, ⟨call4_14, con14⟩, ⟨call4_13, con13⟩, ⟨call4_15, con15⟩, ⟨call4_16, con16⟩, ⟨call4_17, con17⟩, ⟨call4_18, con18⟩, ⟨call4_19, con19⟩, ⟨call4_20, con20⟩, ⟨call4_21, con21⟩, trivial⟩
/-! Function 4. -/
noncomputable def b4 : Code := bodyOf Try.f4
theorem hb4 : Try.f4.body = some b4 := by kernel_rfl
def sig4 : List AT := [AT.v (Ty.sl Ty.str)]
def tys4 : List Ty := [Ty.bool]
def P4 (x0 : List ByteArray) : Prop := ((P12 x0 1048576) ∧ (if (Decidable.decide (g12_0 x0 1048576 < 0)) = true then True else ((P14 x0) ∧ ((P13 (g14_0 x0)) ∧ ((P14 x0) ∧ ((P15 (g14_0 x0)) ∧ (if (!g16_0 (g15_0 (g14_0 x0)) (g13_0 (g14_0 x0))) = true then True else (if (!g17_0 (g15_1 (g14_0 x0)) (g13_1 (g14_0 x0))) = true then True else (if (g15_2 (g14_0 x0) != g13_2 (g14_0 x0)) = true then True else ((P14 x0) ∧ (if (!g16_0 (g14_0 x0) (g14_0 x0)) = true then True else ((P18 (g14_0 x0) 1) ∧ (List.length (u18_0 (g14_0 x0) 1) = List.length (g14_0 x0)) ∧ (if (Decidable.decide (g18_0 (g14_0 x0) 1 < 0)) = true then True else ((P18 (g15_0 (g14_0 x0)) 1) ∧ (List.length (u18_0 (g15_0 (g14_0 x0)) 1) = List.length (g15_0 (g14_0 x0))) ∧ ((P19 (g15_1 (g14_0 x0)) (g18_0 (g15_0 (g14_0 x0)) 1)) ∧ (List.length (u19_0 (g15_1 (g14_0 x0)) (g18_0 (g15_0 (g14_0 x0)) 1)) = List.length (g15_1 (g14_0 x0))) ∧ ((P20 (u18_0 (g15_0 (g14_0 x0)) 1) 1) ∧ (if (Decidable.decide (g20_0 (u18_0 (g15_0 (g14_0 x0)) 1) 1 < 0)) = true then True else ((P21 (u19_0 (g15_1 (g14_0 x0)) (g18_0 (g15_0 (g14_0 x0)) 1)) (g20_0 (u18_0 (g15_0 (g14_0 x0)) 1) 1)) ∧ (if (Decidable.decide (g21_0 (u19_0 (g15_1 (g14_0 x0)) (g18_0 (g15_0 (g14_0 x0)) 1)) (g20_0 (u18_0 (g15_0 (g14_0 x0)) 1) 1) < 0)) = true then True else (if (g21_0 (u19_0 (g15_1 (g14_0 x0)) (g18_0 (g15_0 (g14_0 x0)) 1)) (g20_0 (u18_0 (g15_0 (g14_0 x0)) 1) 1) != g19_0 (g15_1 (g14_0 x0)) (g18_0 (g15_0 (g14_0 x0)) 1)) = true then True else ((P14 x0) ∧ ((P15 (g14_0 x0)) ∧ ((P20 (u18_0 (g15_0 (g14_0 x0)) 1) 1) ∧ ((P21 (u19_0 (g15_1 (g14_0 x0)) (g18_0 (g15_0 (g14_0 x0)) 1)) (g20_0 (u18_0 (g15_0 (g14_0 x0)) 1) 1)) ∧ True))))))))))))))))))))))))
def g4_0 (x0 : List ByteArray) : Bool := (if (Decidable.decide (g12_0 x0 1048576 < 0)) = true then Bool.true else (if (!g16_0 (g15_0 (g14_0 x0)) (g13_0 (g14_0 x0))) = true then Bool.false else (if (!g17_0 (g15_1 (g14_0 x0)) (g13_1 (g14_0 x0))) = true then Bool.false else (if (g15_2 (g14_0 x0) != g13_2 (g14_0 x0)) = true then Bool.false else (if (!g16_0 (g14_0 x0) (g14_0 x0)) = true then Bool.false else (if (Decidable.decide (g18_0 (g14_0 x0) 1 < 0)) = true then Bool.false else (if (Decidable.decide (g20_0 (u18_0 (g15_0 (g14_0 x0)) 1) 1 < 0)) = true then Bool.false else (if (Decidable.decide (g21_0 (u19_0 (g15_1 (g14_0 x0)) (g18_0 (g15_0 (g14_0 x0)) 1)) (g20_0 (u18_0 (g15_0 (g14_0 x0)) 1) 1) < 0)) = true then Bool.false else (if (g21_0 (u19_0 (g15_1 (g14_0 x0)) (g18_0 (g15_0 (g14_0 x0)) 1)) (g20_0 (u18_0 (g15_0 (g14_0 x0)) 1) 1) != g19_0 (g15_1 (g14_0 x0)) (g18_0 (g15_0 (g14_0 x0)) 1)) = true then Bool.false else Bool.true)))))))))
theorem p4_0 (x0 : List ByteArray) : runF tab ext4 false 133 [] 2000 [] tys4 Try.f4.results [true] [.code b4] (entE 0 0 sig4 (x0, ())) (entL sig4 (x0, ())) = some ([Dyn.mk Ty.bool Bool.true], [], [P12 x0 1048576, Decidable.decide (g12_0 x0 1048576 < 0) = Bool.true]) := by kernel_rfl
theorem p4_1 (x0 : List ByteArray) : runF tab ext4 false 133 [] 2000 [] tys4 Try.f4.results [false, true, true, true] [.code b4] (entE 0 0 sig4 (x0, ())) (entL sig4 (x0, ())) = some ([Dyn.mk Ty.bool Bool.false], [], [P12 x0 1048576, Decidable.decide (g12_0 x0 1048576 < 0) = Bool.false, P14 x0, P13 (g14_0 x0), P14 x0, P15 (g14_0 x0), True, (!g16_0 (g15_0 (g14_0 x0)) (g13_0 (g14_0 x0))) = Bool.true, Bool.true = Bool.true, Bool.true = Bool.true]) := by kernel_rfl
theorem p4_2 (x0 : List ByteArray) : runF tab ext4 false 133 [] 2000 [] tys4 Try.f4.results [false, false, true, true] [.code b4] (entE 0 0 sig4 (x0, ())) (entL sig4 (x0, ())) = some ([Dyn.mk Ty.bool Bool.false], [], [P12 x0 1048576, Decidable.decide (g12_0 x0 1048576 < 0) = Bool.false, P14 x0, P13 (g14_0 x0), P14 x0, P15 (g14_0 x0), True, (!g16_0 (g15_0 (g14_0 x0)) (g13_0 (g14_0 x0))) = Bool.false, True, (!g17_0 (g15_1 (g14_0 x0)) (g13_1 (g14_0 x0))) = Bool.true, Bool.true = Bool.true]) := by kernel_rfl
theorem p4_3 (x0 : List ByteArray) : runF tab ext4 false 133 [] 2000 [] tys4 Try.f4.results [false, false, false, true] [.code b4] (entE 0 0 sig4 (x0, ())) (entL sig4 (x0, ())) = some ([Dyn.mk Ty.bool Bool.false], [], [P12 x0 1048576, Decidable.decide (g12_0 x0 1048576 < 0) = Bool.false, P14 x0, P13 (g14_0 x0), P14 x0, P15 (g14_0 x0), True, (!g16_0 (g15_0 (g14_0 x0)) (g13_0 (g14_0 x0))) = Bool.false, True, (!g17_0 (g15_1 (g14_0 x0)) (g13_1 (g14_0 x0))) = Bool.false, (g15_2 (g14_0 x0) != g13_2 (g14_0 x0)) = Bool.true]) := by kernel_rfl
theorem p4_4 (x0 : List ByteArray) : runF tab ext4 false 133 [] 2000 [] tys4 Try.f4.results [false, false, false, false, true] [.code b4] (entE 0 0 sig4 (x0, ())) (entL sig4 (x0, ())) = some ([Dyn.mk Ty.bool Bool.false], [], [P12 x0 1048576, Decidable.decide (g12_0 x0 1048576 < 0) = Bool.false, P14 x0, P13 (g14_0 x0), P14 x0, P15 (g14_0 x0), True, (!g16_0 (g15_0 (g14_0 x0)) (g13_0 (g14_0 x0))) = Bool.false, True, (!g17_0 (g15_1 (g14_0 x0)) (g13_1 (g14_0 x0))) = Bool.false, (g15_2 (g14_0 x0) != g13_2 (g14_0 x0)) = Bool.false, P14 x0, True, (!g16_0 (g14_0 x0) (g14_0 x0)) = Bool.true]) := by kernel_rfl
theorem p4_5 (x0 : List ByteArray) : runF tab ext4 false 133 [] 2000 [] tys4 Try.f4.results [false, false, false, false, false, true, true, true, true] [.code b4] (entE 0 0 sig4 (x0, ())) (entL sig4 (x0, ())) = some ([Dyn.mk Ty.bool Bool.false], [], [P12 x0 1048576, Decidable.decide (g12_0 x0 1048576 < 0) = Bool.false, P14 x0, P13 (g14_0 x0), P14 x0, P15 (g14_0 x0), True, (!g16_0 (g15_0 (g14_0 x0)) (g13_0 (g14_0 x0))) = Bool.false, True, (!g17_0 (g15_1 (g14_0 x0)) (g13_1 (g14_0 x0))) = Bool.false, (g15_2 (g14_0 x0) != g13_2 (g14_0 x0)) = Bool.false, P14 x0, True, (!g16_0 (g14_0 x0) (g14_0 x0)) = Bool.false, P18 (g14_0 x0) 1, List.length (u18_0 (g14_0 x0) 1) = List.length (g14_0 x0), Decidable.decide (g18_0 (g14_0 x0) 1 < 0) = Bool.true, Bool.true = Bool.true, Bool.true = Bool.true, Bool.true = Bool.true]) := by kernel_rfl
theorem p4_6 (x0 : List ByteArray) : runF tab ext4 false 133 [] 2000 [] tys4 Try.f4.results [false, false, false, false, false, false, false, false, false, true] [.code b4] (entE 0 0 sig4 (x0, ())) (entL sig4 (x0, ())) = some ([Dyn.mk Ty.bool Bool.false], [], [P12 x0 1048576, Decidable.decide (g12_0 x0 1048576 < 0) = Bool.false, P14 x0, P13 (g14_0 x0), P14 x0, P15 (g14_0 x0), True, (!g16_0 (g15_0 (g14_0 x0)) (g13_0 (g14_0 x0))) = Bool.false, True, (!g17_0 (g15_1 (g14_0 x0)) (g13_1 (g14_0 x0))) = Bool.false, (g15_2 (g14_0 x0) != g13_2 (g14_0 x0)) = Bool.false, P14 x0, True, (!g16_0 (g14_0 x0) (g14_0 x0)) = Bool.false, P18 (g14_0 x0) 1, List.length (u18_0 (g14_0 x0) 1) = List.length (g14_0 x0), Decidable.decide (g18_0 (g14_0 x0) 1 < 0) = Bool.false, True, (!g16_0 (g15_0 (g14_0 x0)) (g13_0 (g14_0 x0))) = Bool.false, True, (!g17_0 (g15_1 (g14_0 x0)) (g13_1 (g14_0 x0))) = Bool.false, (g15_2 (g14_0 x0) != g13_2 (g14_0 x0)) = Bool.false, P18 (g15_0 (g14_0 x0)) 1, List.length (u18_0 (g15_0 (g14_0 x0)) 1) = List.length (g15_0 (g14_0 x0)), P19 (g15_1 (g14_0 x0)) (g18_0 (g15_0 (g14_0 x0)) 1), List.length (u19_0 (g15_1 (g14_0 x0)) (g18_0 (g15_0 (g14_0 x0)) 1)) = List.length (g15_1 (g14_0 x0)), P20 (u18_0 (g15_0 (g14_0 x0)) 1) 1, Decidable.decide (g20_0 (u18_0 (g15_0 (g14_0 x0)) 1) 1 < 0) = Bool.true]) := by kernel_rfl
theorem p4_7 (x0 : List ByteArray) : runF tab ext4 false 133 [] 2000 [] tys4 Try.f4.results [false, false, false, false, false, false, false, false, false, false, true] [.code b4] (entE 0 0 sig4 (x0, ())) (entL sig4 (x0, ())) = some ([Dyn.mk Ty.bool Bool.false], [], [P12 x0 1048576, Decidable.decide (g12_0 x0 1048576 < 0) = Bool.false, P14 x0, P13 (g14_0 x0), P14 x0, P15 (g14_0 x0), True, (!g16_0 (g15_0 (g14_0 x0)) (g13_0 (g14_0 x0))) = Bool.false, True, (!g17_0 (g15_1 (g14_0 x0)) (g13_1 (g14_0 x0))) = Bool.false, (g15_2 (g14_0 x0) != g13_2 (g14_0 x0)) = Bool.false, P14 x0, True, (!g16_0 (g14_0 x0) (g14_0 x0)) = Bool.false, P18 (g14_0 x0) 1, List.length (u18_0 (g14_0 x0) 1) = List.length (g14_0 x0), Decidable.decide (g18_0 (g14_0 x0) 1 < 0) = Bool.false, True, (!g16_0 (g15_0 (g14_0 x0)) (g13_0 (g14_0 x0))) = Bool.false, True, (!g17_0 (g15_1 (g14_0 x0)) (g13_1 (g14_0 x0))) = Bool.false, (g15_2 (g14_0 x0) != g13_2 (g14_0 x0)) = Bool.false, P18 (g15_0 (g14_0 x0)) 1, List.length (u18_0 (g15_0 (g14_0 x0)) 1) = List.length (g15_0 (g14_0 x0)), P19 (g15_1 (g14_0 x0)) (g18_0 (g15_0 (g14_0 x0)) 1), List.length (u19_0 (g15_1 (g14_0 x0)) (g18_0 (g15_0 (g14_0 x0)) 1)) = List.length (g15_1 (g14_0 x0)), P20 (u18_0 (g15_0 (g14_0 x0)) 1) 1, Decidable.decide (g20_0 (u18_0 (g15_0 (g14_0 x0)) 1) 1 < 0) = Bool.false, P21 (u19_0 (g15_1 (g14_0 x0)) (g18_0 (g15_0 (g14_0 x0)) 1)) (g20_0 (u18_0 (g15_0 (g14_0 x0)) 1) 1), Decidable.decide (g21_0 (u19_0 (g15_1 (g14_0 x0)) (g18_0 (g15_0 (g14_0 x0)) 1)) (g20_0 (u18_0 (g15_0 (g14_0 x0)) 1) 1) < 0) = Bool.true]) := by kernel_rfl
theorem p4_8 (x0 : List ByteArray) : runF tab ext4 false 133 [] 2000 [] tys4 Try.f4.results [false, false, false, false, false, false, false, false, false, false, false, true] [.code b4] (entE 0 0 sig4 (x0, ())) (entL sig4 (x0, ())) = some ([Dyn.mk Ty.bool Bool.false], [], [P12 x0 1048576, Decidable.decide (g12_0 x0 1048576 < 0) = Bool.false, P14 x0, P13 (g14_0 x0), P14 x0, P15 (g14_0 x0), True, (!g16_0 (g15_0 (g14_0 x0)) (g13_0 (g14_0 x0))) = Bool.false, True, (!g17_0 (g15_1 (g14_0 x0)) (g13_1 (g14_0 x0))) = Bool.false, (g15_2 (g14_0 x0) != g13_2 (g14_0 x0)) = Bool.false, P14 x0, True, (!g16_0 (g14_0 x0) (g14_0 x0)) = Bool.false, P18 (g14_0 x0) 1, List.length (u18_0 (g14_0 x0) 1) = List.length (g14_0 x0), Decidable.decide (g18_0 (g14_0 x0) 1 < 0) = Bool.false, True, (!g16_0 (g15_0 (g14_0 x0)) (g13_0 (g14_0 x0))) = Bool.false, True, (!g17_0 (g15_1 (g14_0 x0)) (g13_1 (g14_0 x0))) = Bool.false, (g15_2 (g14_0 x0) != g13_2 (g14_0 x0)) = Bool.false, P18 (g15_0 (g14_0 x0)) 1, List.length (u18_0 (g15_0 (g14_0 x0)) 1) = List.length (g15_0 (g14_0 x0)), P19 (g15_1 (g14_0 x0)) (g18_0 (g15_0 (g14_0 x0)) 1), List.length (u19_0 (g15_1 (g14_0 x0)) (g18_0 (g15_0 (g14_0 x0)) 1)) = List.length (g15_1 (g14_0 x0)), P20 (u18_0 (g15_0 (g14_0 x0)) 1) 1, Decidable.decide (g20_0 (u18_0 (g15_0 (g14_0 x0)) 1) 1 < 0) = Bool.false, P21 (u19_0 (g15_1 (g14_0 x0)) (g18_0 (g15_0 (g14_0 x0)) 1)) (g20_0 (u18_0 (g15_0 (g14_0 x0)) 1) 1), Decidable.decide (g21_0 (u19_0 (g15_1 (g14_0 x0)) (g18_0 (g15_0 (g14_0 x0)) 1)) (g20_0 (u18_0 (g15_0 (g14_0 x0)) 1) 1) < 0) = Bool.false, (g21_0 (u19_0 (g15_1 (g14_0 x0)) (g18_0 (g15_0 (g14_0 x0)) 1)) (g20_0 (u18_0 (g15_0 (g14_0 x0)) 1) 1) != g19_0 (g15_1 (g14_0 x0)) (g18_0 (g15_0 (g14_0 x0)) 1)) = Bool.true]) := by kernel_rfl
theorem p4_9 (x0 : List ByteArray) : runF tab ext4 false 133 [] 2000 [] tys4 Try.f4.results [false, false, false, false, false, false, false, false, false, false, false, false, false, false, false, false, false, false] [.code b4] (entE 0 0 sig4 (x0, ())) (entL sig4 (x0, ())) = some ([Dyn.mk Ty.bool Bool.true], [], [P12 x0 1048576, Decidable.decide (g12_0 x0 1048576 < 0) = Bool.false, P14 x0, P13 (g14_0 x0), P14 x0, P15 (g14_0 x0), True, (!g16_0 (g15_0 (g14_0 x0)) (g13_0 (g14_0 x0))) = Bool.false, True, (!g17_0 (g15_1 (g14_0 x0)) (g13_1 (g14_0 x0))) = Bool.false, (g15_2 (g14_0 x0) != g13_2 (g14_0 x0)) = Bool.false, P14 x0, True, (!g16_0 (g14_0 x0) (g14_0 x0)) = Bool.false, P18 (g14_0 x0) 1, List.length (u18_0 (g14_0 x0) 1) = List.length (g14_0 x0), Decidable.decide (g18_0 (g14_0 x0) 1 < 0) = Bool.false, True, (!g16_0 (g15_0 (g14_0 x0)) (g13_0 (g14_0 x0))) = Bool.false, True, (!g17_0 (g15_1 (g14_0 x0)) (g13_1 (g14_0 x0))) = Bool.false, (g15_2 (g14_0 x0) != g13_2 (g14_0 x0)) = Bool.false, P18 (g15_0 (g14_0 x0)) 1, List.length (u18_0 (g15_0 (g14_0 x0)) 1) = List.length (g15_0 (g14_0 x0)), P19 (g15_1 (g14_0 x0)) (g18_0 (g15_0 (g14_0 x0)) 1), List.length (u19_0 (g15_1 (g14_0 x0)) (g18_0 (g15_0 (g14_0 x0)) 1)) = List.length (g15_1 (g14_0 x0)), P20 (u18_0 (g15_0 (g14_0 x0)) 1) 1, Decidable.decide (g20_0 (u18_0 (g15_0 (g14_0 x0)) 1) 1 < 0) = Bool.false, P21 (u19_0 (g15_1 (g14_0 x0)) (g18_0 (g15_0 (g14_0 x0)) 1)) (g20_0 (u18_0 (g15_0 (g14_0 x0)) 1) 1), Decidable.decide (g21_0 (u19_0 (g15_1 (g14_0 x0)) (g18_0 (g15_0 (g14_0 x0)) 1)) (g20_0 (u18_0 (g15_0 (g14_0 x0)) 1) 1) < 0) = Bool.false, (g21_0 (u19_0 (g15_1 (g14_0 x0)) (g18_0 (g15_0 (g14_0 x0)) 1)) (g20_0 (u18_0 (g15_0 (g14_0 x0)) 1) 1) != g19_0 (g15_1 (g14_0 x0)) (g18_0 (g15_0 (g14_0 x0)) 1)) = Bool.false, P14 x0, P15 (g14_0 x0), True, (!g16_0 (g15_0 (g14_0 x0)) (g13_0 (g14_0 x0))) = Bool.false, True, (!g17_0 (g15_1 (g14_0 x0)) (g13_1 (g14_0 x0))) = Bool.false, (g15_2 (g14_0 x0) != g13_2 (g14_0 x0)) = Bool.false, P20 (u18_0 (g15_0 (g14_0 x0)) 1) 1, Decidable.decide (g20_0 (u18_0 (g15_0 (g14_0 x0)) 1) 1 < 0) = Bool.false, P21 (u19_0 (g15_1 (g14_0 x0)) (g18_0 (g15_0 (g14_0 x0)) 1)) (g20_0 (u18_0 (g15_0 (g14_0 x0)) 1) 1), Decidable.decide (g21_0 (u19_0 (g15_1 (g14_0 x0)) (g18_0 (g15_0 (g14_0 x0)) 1)) (g20_0 (u18_0 (g15_0 (g14_0 x0)) 1) 1) < 0) = Bool.false, (g21_0 (u19_0 (g15_1 (g14_0 x0)) (g18_0 (g15_0 (g14_0 x0)) 1)) (g20_0 (u18_0 (g15_0 (g14_0 x0)) 1) 1) != g19_0 (g15_1 (g14_0 x0)) (g18_0 (g15_0 (g14_0 x0)) 1)) = Bool.false]) := by kernel_rfl
theorem at4 (x0 : List ByteArray) (h : P4 x0) (w0 : World) (O : List Nat) (q : Nat → Value) : AtV Try.prog 4 (PostR [⟨Ty.bool, g4_0 x0⟩] [] [] q w0 O) 133 w0 O q [] [.code b4] (entE 0 0 sig4 (x0, ())) (entL sig4 (x0, ())) := by
  unfold P4 at h
  unfold g4_0
  obtain ⟨s0, h⟩ := h
  by_cases b0 : (Decidable.decide (g12_0 x0 1048576 < 0)) = true
  · try simp only [if_pos b0] at h ⊢
    exact AtV.fin Try.func4 tabOk ext4Ok mixed (p4_0 x0) ⟨s0, b0, trivial⟩
  · try simp only [if_neg b0] at h ⊢
    replace b0 := Bool.eq_false_iff.2 b0
    obtain ⟨s1, h⟩ := h
    obtain ⟨s2, h⟩ := h
    obtain ⟨s3, h⟩ := h
    obtain ⟨s4, h⟩ := h
    by_cases b1 : (!g16_0 (g15_0 (g14_0 x0)) (g13_0 (g14_0 x0))) = true
    · try simp only [if_pos b1] at h ⊢
      exact AtV.fin Try.func4 tabOk ext4Ok mixed (p4_1 x0) ⟨s0, b0, s1, s2, s3, s4, trivial, b1, rfl, rfl, trivial⟩
    · try simp only [if_neg b1] at h ⊢
      replace b1 := Bool.eq_false_iff.2 b1
      by_cases b2 : (!g17_0 (g15_1 (g14_0 x0)) (g13_1 (g14_0 x0))) = true
      · try simp only [if_pos b2] at h ⊢
        exact AtV.fin Try.func4 tabOk ext4Ok mixed (p4_2 x0) ⟨s0, b0, s1, s2, s3, s4, trivial, b1, trivial, b2, rfl, trivial⟩
      · try simp only [if_neg b2] at h ⊢
        replace b2 := Bool.eq_false_iff.2 b2
        by_cases b3 : (g15_2 (g14_0 x0) != g13_2 (g14_0 x0)) = true
        · try simp only [if_pos b3] at h ⊢
          exact AtV.fin Try.func4 tabOk ext4Ok mixed (p4_3 x0) ⟨s0, b0, s1, s2, s3, s4, trivial, b1, trivial, b2, b3, trivial⟩
        · try simp only [if_neg b3] at h ⊢
          replace b3 := Bool.eq_false_iff.2 b3
          obtain ⟨s5, h⟩ := h
          by_cases b4 : (!g16_0 (g14_0 x0) (g14_0 x0)) = true
          · try simp only [if_pos b4] at h ⊢
            exact AtV.fin Try.func4 tabOk ext4Ok mixed (p4_4 x0) ⟨s0, b0, s1, s2, s3, s4, trivial, b1, trivial, b2, b3, s5, trivial, b4, trivial⟩
          · try simp only [if_neg b4] at h ⊢
            replace b4 := Bool.eq_false_iff.2 b4
            obtain ⟨s6, s7, h⟩ := h
            by_cases b5 : (Decidable.decide (g18_0 (g14_0 x0) 1 < 0)) = true
            · try simp only [if_pos b5] at h ⊢
              exact AtV.fin Try.func4 tabOk ext4Ok mixed (p4_5 x0) ⟨s0, b0, s1, s2, s3, s4, trivial, b1, trivial, b2, b3, s5, trivial, b4, s6, s7, b5, rfl, rfl, rfl, trivial⟩
            · try simp only [if_neg b5] at h ⊢
              replace b5 := Bool.eq_false_iff.2 b5
              obtain ⟨s8, s9, h⟩ := h
              obtain ⟨s10, s11, h⟩ := h
              obtain ⟨s12, h⟩ := h
              by_cases b6 : (Decidable.decide (g20_0 (u18_0 (g15_0 (g14_0 x0)) 1) 1 < 0)) = true
              · try simp only [if_pos b6] at h ⊢
                exact AtV.fin Try.func4 tabOk ext4Ok mixed (p4_6 x0) ⟨s0, b0, s1, s2, s3, s4, trivial, b1, trivial, b2, b3, s5, trivial, b4, s6, s7, b5, trivial, b1, trivial, b2, b3, s8, s9, s10, s11, s12, b6, trivial⟩
              · try simp only [if_neg b6] at h ⊢
                replace b6 := Bool.eq_false_iff.2 b6
                obtain ⟨s13, h⟩ := h
                by_cases b7 : (Decidable.decide (g21_0 (u19_0 (g15_1 (g14_0 x0)) (g18_0 (g15_0 (g14_0 x0)) 1)) (g20_0 (u18_0 (g15_0 (g14_0 x0)) 1) 1) < 0)) = true
                · try simp only [if_pos b7] at h ⊢
                  exact AtV.fin Try.func4 tabOk ext4Ok mixed (p4_7 x0) ⟨s0, b0, s1, s2, s3, s4, trivial, b1, trivial, b2, b3, s5, trivial, b4, s6, s7, b5, trivial, b1, trivial, b2, b3, s8, s9, s10, s11, s12, b6, s13, b7, trivial⟩
                · try simp only [if_neg b7] at h ⊢
                  replace b7 := Bool.eq_false_iff.2 b7
                  by_cases b8 : (g21_0 (u19_0 (g15_1 (g14_0 x0)) (g18_0 (g15_0 (g14_0 x0)) 1)) (g20_0 (u18_0 (g15_0 (g14_0 x0)) 1) 1) != g19_0 (g15_1 (g14_0 x0)) (g18_0 (g15_0 (g14_0 x0)) 1)) = true
                  · try simp only [if_pos b8] at h ⊢
                    exact AtV.fin Try.func4 tabOk ext4Ok mixed (p4_8 x0) ⟨s0, b0, s1, s2, s3, s4, trivial, b1, trivial, b2, b3, s5, trivial, b4, s6, s7, b5, trivial, b1, trivial, b2, b3, s8, s9, s10, s11, s12, b6, s13, b7, b8, trivial⟩
                  · try simp only [if_neg b8] at h ⊢
                    replace b8 := Bool.eq_false_iff.2 b8
                    obtain ⟨s14, h⟩ := h
                    obtain ⟨s15, h⟩ := h
                    obtain ⟨s16, h⟩ := h
                    obtain ⟨s17, h⟩ := h
                    exact AtV.fin Try.func4 tabOk ext4Ok mixed (p4_9 x0) ⟨s0, b0, s1, s2, s3, s4, trivial, b1, trivial, b2, b3, s5, trivial, b4, s6, s7, b5, trivial, b1, trivial, b2, b3, s8, s9, s10, s11, s12, b6, s13, b7, b8, s14, s15, trivial, b1, trivial, b2, b3, s16, b6, s17, b7, b8, trivial⟩

def S4 : Am.Spec := { sig := sig4, pre := fun ⟨x0, _⟩ => P4 x0, res := fun ⟨x0, _⟩ => [⟨Ty.bool, g4_0 x0⟩] }
theorem con4 : Contract Try.prog 4 S4 := contract_of Try.func4 hb4 (Nat.le_of_ble_eq_true (by kernel_rfl)) (fun ⟨x0, _⟩ h _ w0 O q => at4 x0 h w0 O q)


end Go.Proofs.Ytncnaaoifbhkjaa

/- A law that says how functions of the program and of the specification hang together. -/
set_option linter.unusedVariables false
set_option linter.unusedSimpArgs false
set_option maxRecDepth 100000
namespace Go.Proofs.Ytncnaaoifbhkjaa
open Go Go.Am Go.Proofs

theorem reportLine (s : ByteArray) : g54_0 s = g40_0 s := by
  unfold g54_0 g63c64_0 g40_0
  rw [any78c64]
  have hq : (!(bytesOf s).any g64_0) = (bytesOf s).all ok40 := by
    rw [List.not_any_eq_all_not]
    congr 1
    funext b
    simp only [g64_0, ok40]
    by_cases h1 : b < 32 <;> by_cases h2 : b > 126 <;> simp [h1, h2] <;> omega
  rw [hq]
  by_cases h : ((s.size : Nat) : Int) ≤ 100
  · have h' : s.size ≤ 100 := by omega
    simp [h, h']
  · have h' : ¬ s.size ≤ 100 := by omega
    simp [h, h']

theorem report (x : List ByteArray) : g41_0 x = g31_0 x := by
  unfold g41_0 g31_0 g52c53_0
  rw [any62c53]
  have hq : (!x.any g53_0) = x.all g40_0 := by
    rw [List.not_any_eq_all_not]
    congr 1
    funext b
    simp only [g53_0, reportLine, Bool.not_not]
  rw [hq]
  by_cases h : ((x.length : Nat) : Int) ≤ 200
  · have h' : x.length ≤ 200 := by omega
    simp [h, h']
  · have h' : ¬ x.length ≤ 200 := by omega
    simp [h, h']

end Go.Proofs.Ytncnaaoifbhkjaa

/- A law that says how functions of the program and of the specification hang together. -/
set_option linter.unusedVariables false
set_option linter.unusedSimpArgs false
set_option maxRecDepth 100000
namespace Go.Proofs.Ytncnaaoifbhkjaa
open Go Go.Am Go.Proofs

theorem count_eq (x : List ByteArray) : g15_0 x = g13_0 x ∧ g15_1 x = g13_1 x ∧ g15_2 x = g13_2 x := by
  unfold g15_0 g13_0 g15_1 g13_1 g15_2 g13_2
  rw [report]
  exact ⟨rfl, rfl, rfl⟩

theorem count_len (x : List ByteArray) : (g13_0 x).length ≤ x.length ∧ (g13_1 x).length ≤ x.length := by
  unfold g13_0 g13_1
  have h := counted_inv (g32_0 x)
  have e : (g32_0 x).length = x.length := (sortB_perm x).length_eq
  obtain ⟨_, h1, h2, _⟩ := h
  split
  · exact ⟨by omega, by omega⟩
  · exact ⟨Nat.zero_le _, Nat.zero_le _⟩

end Go.Proofs.Ytncnaaoifbhkjaa

/- A law that says how functions of the program and of the specification hang together. -/
set_option linter.unusedVariables false
set_option linter.unusedSimpArgs false
set_option maxRecDepth 100000
namespace Go.Proofs.Ytncnaaoifbhkjaa
open Go Go.Am Go.Proofs

theorem marked_str (xs : List ByteArray) (h : xs.length ≤ 1048576) : P18 xs 1 ∧ (u18_0 xs 1).length = xs.length ∧ P20 (u18_0 xs 1) 1 ∧
    g20_0 (u18_0 xs 1) 1 = g18_0 xs 1 ∧ ¬ g18_0 xs 1 < 0 := by
  have hl : (u18_0 xs 1).length = xs.length := by rw [u18_0, M18_len]
  refine ⟨⟨by omega, by omega⟩, hl, ⟨⟨by omega, by rw [hl]; omega⟩, fun i hi => ?_⟩, ?_, ?_⟩
  · rw [hl] at hi
    rw [getD_lt _ _ _ (by rw [hl]; exact hi)]
    simp [u18_0, M18]
  · unfold g20_0 g18_0
    rw [hl]
  · unfold g18_0
    omega

end Go.Proofs.Ytncnaaoifbhkjaa

/- A law that says how functions of the program and of the specification hang together. -/
set_option linter.unusedVariables false
set_option linter.unusedSimpArgs false
set_option maxRecDepth 100000
namespace Go.Proofs.Ytncnaaoifbhkjaa
open Go Go.Am Go.Proofs

theorem marked_intK (xs : List Int) (k : Int) (h : xs.length ≤ 1048576) (hk : 0 ≤ k ∧ k ≤ 4194304) : P19 xs k ∧ (u19_0 xs k).length = xs.length ∧ P21 (u19_0 xs k) k ∧
    g21_0 (u19_0 xs k) k = g19_0 xs k ∧ ¬ g19_0 xs k < 0 := by
  have hl : (u19_0 xs k).length = xs.length := by rw [u19_0, M19_len]
  refine ⟨⟨by omega, by omega⟩, hl, ⟨⟨by omega, by rw [hl]; omega⟩, fun i hi => ?_⟩, ?_, ?_⟩
  · rw [hl] at hi
    rw [getD_lt _ _ _ (by rw [hl]; exact hi)]
    simp [u19_0, M19]
  · unfold g21_0 g19_0
    rw [hl]
  · unfold g19_0
    omega

end Go.Proofs.Ytncnaaoifbhkjaa

/- The plain law of FnExactCountLines. -/
set_option linter.unusedVariables false
set_option linter.unusedSimpArgs false
set_option maxRecDepth 100000
namespace Go.Proofs.Ytncnaaoifbhkjaa
open Go Go.Am Go.Proofs

theorem law4 (x : List ByteArray) (hw : Wf (.sl .str) x) : P4 x ∧ g4_0 x = true := by
  unfold P4 g4_0
  by_cases h : g12_0 x 1048576 < 0
  · simp only [h, decide_true, if_true, and_true]
    exact (show (0 : Int) ≤ 1048576 from by decide)
  · have hs := sz12_sum x 1048576 h
    have hp : P14 x := by
      show 16 * (x.length : Int) ≤ 281474976710656
      omega
    have hz : P12 x 1048576 := (show (0 : Int) ≤ 1048576 from by decide)
    obtain ⟨l0, l1⟩ := count_len x
    obtain ⟨e0, e1, e2⟩ := count_eq x
    have q1 : P13 x := (show x.length ≤ 1048576 from by omega)
    have q2 : P15 x := (show x.length ≤ 1048576 from by omega)
    obtain ⟨b1, b2, b3, b4, b5⟩ := marked_str x (by omega)
    obtain ⟨m1, m2, m3, m4, m5⟩ := marked_str (g13_0 x) (by omega)
    have hk : 0 ≤ g18_0 (g13_0 x) 1 ∧ g18_0 (g13_0 x) 1 ≤ 4194304 := by
      unfold g18_0
      omega
    obtain ⟨n1, n2, n3, n4, n5⟩ := marked_intK (g13_1 x) _ (by omega) hk
    simp only [h, decide_false, Bool.false_eq_true, if_false, g14_0, e0, e1, e2, q1, q2, g16_0, g17_0, decide_true, Bool.not_true, bne_self_eq_false, b1, b2, b5, m1, m2, m3, m4, m5, n1, n2, n3, n4, n5, hp, hz, true_and, and_self]

end Go.Proofs.Ytncnaaoifbhkjaa
