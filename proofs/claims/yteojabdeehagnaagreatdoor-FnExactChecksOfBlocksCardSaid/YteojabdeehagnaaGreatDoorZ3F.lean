/- Several texts in one: the functions that this law reaches, and their laws. -/
import Derived.Test.YteojabdeehagnaaGreatDoorZ3A
import Derived.Test.YteojabdeehagnaaGreatDoorZ3B
import Derived.Test.YteojabdeehagnaaGreatDoorZ3C
import Derived.Test.YteojabdeehagnaaGreatDoorZ3D
import Derived.Test.YteojabdeehagnaaGreatDoorZ3E
import Derived.Lib.ItoaNum
import Derived.Lib.ParseIntBCases
import Derived.Lib.IndexAny
import Derived.Lib.IndexMore

/- Function 12 (laws.heldCheckS): its runs between cut points. Written by a program of this repo (gen). -/
set_option linter.unusedVariables false
set_option linter.unusedSimpArgs false
set_option maxRecDepth 100000
namespace Go.Proofs.YteojabdeehagnaaGreatDoor
open Go Go.Am Go.Proofs
def ext12 : Ext := [(21, S21)]
theorem call12_21 : Callable Tryz.prog 21 := ⟨Tryz.f21, Tryz.func21, by kernel_rfl, by kernel_rfl⟩
theorem ext12Ok : ExtOk Tryz.prog ext12 := ⟨⟨call12_21, con21⟩, trivial⟩
/-! Function 12. -/
noncomputable def b12 : Code := bodyOf Tryz.f12
theorem hb12 : Tryz.f12.body = some b12 := by kernel_rfl
def sig12 : List AT := [AT.v (Ty.sl (Ty.cons Ty.str (Ty.cons (Ty.int IntKind.i64) (Ty.cons (Ty.int IntKind.i64) (Ty.cons (Ty.int IntKind.i64) (Ty.cons (Ty.int IntKind.i64) Ty.unit)))))), AT.v (Ty.int IntKind.i64)]
def tys12 : List Ty := [Ty.int IntKind.i64]
def E12_2 (v5 : Int) (x0 : List (ByteArray × Int × Int × Int × Int × Unit)) (x1 : Int) : Env := [(0, PV.a (Atom.sl (Ty.cons Ty.str (Ty.cons (Ty.int IntKind.i64) (Ty.cons (Ty.int IntKind.i64) (Ty.cons (Ty.int IntKind.i64) (Ty.cons (Ty.int IntKind.i64) Ty.unit))))) x0)), (1, PV.a (Atom.val (Value.int IntKind.i64 x1))), (5, PV.a (Atom.val (Value.int IntKind.i64 v5)))]
def L12_2 (v5 : Int) (x0 : List (ByteArray × Int × Int × Int × Int × Unit)) (x1 : Int) : Heap := []
mutual
def R12 : Nat → List (ByteArray × Int × Int × Int × Int × Unit) → Int → List Dyn → Prop
  | 0, _, _, _ => False
  | n + 1, x0, x1, ds => (R12_2 n (0) (x0) (x1) ds)
def R12_2 : Nat → Int → List (ByteArray × Int × Int × Int × Int × Unit) → Int → List Dyn → Prop
  | 0, _, _, _, _ => False
  | n + 1, v5, x0, x1, ds => (if (Decidable.decide (v5 < (↑(List.length x0) : Int))) = true then ((0 ≤ v5) ∧ (v5 < (↑(List.length x0) : Int)) ∧ (if (!ByteArray.toList (Prod.fst (List.getD x0 (Int.toNat v5) (ByteArray.empty, 0, 0, 0, 0, ()))) == ByteArray.toList (g21_0 x1)) = true then (ds = [Dyn.mk (Ty.int IntKind.i64) (-1)]) else ((InR IntKind.i64 (x1 + 1)) ∧ ((0 ≤ v5) ∧ (v5 < (↑(List.length x0) : Int)) ∧ (if (Prod.fst (Prod.snd (List.getD x0 (Int.toNat v5) (ByteArray.empty, 0, 0, 0, 0, ()))) != x1 + 1) = true then (ds = [Dyn.mk (Ty.int IntKind.i64) (-1)]) else ((InR IntKind.i64 (x1 + 1 + 1)) ∧ ((0 ≤ v5) ∧ (v5 < (↑(List.length x0) : Int)) ∧ (if (Prod.fst (Prod.snd (Prod.snd (List.getD x0 (Int.toNat v5) (ByteArray.empty, 0, 0, 0, 0, ())))) != x1 + 1 + 1) = true then (ds = [Dyn.mk (Ty.int IntKind.i64) (-1)]) else ((InR IntKind.i64 (x1 + 1 + 1 + 1)) ∧ ((0 ≤ v5) ∧ (v5 < (↑(List.length x0) : Int)) ∧ (if (Prod.fst (Prod.snd (Prod.snd (Prod.snd (List.getD x0 (Int.toNat v5) (ByteArray.empty, 0, 0, 0, 0, ()))))) != x1 + 1 + 1 + 1) = true then (ds = [Dyn.mk (Ty.int IntKind.i64) (-1)]) else ((InR IntKind.i64 (x1 + 1 + 1 + 1 + 1)) ∧ ((0 ≤ v5) ∧ (v5 < (↑(List.length x0) : Int)) ∧ (if (Prod.fst (Prod.snd (Prod.snd (Prod.snd (Prod.snd (List.getD x0 (Int.toNat v5) (ByteArray.empty, 0, 0, 0, 0, ())))))) != x1 + 1 + 1 + 1 + 1) = true then (ds = [Dyn.mk (Ty.int IntKind.i64) (-1)]) else ((InR IntKind.i64 (x1 + 1 + 1 + 1 + 1 + 1)) ∧ ((InR IntKind.i64 (v5 + 1)) ∧ (R12_2 n (v5 + 1) (x0) (x1 + 1 + 1 + 1 + 1 + 1) ds))))))))))))))))) else (ds = [Dyn.mk (Ty.int IntKind.i64) x1]))
end
theorem p12_0 (x0 : List (ByteArray × Int × Int × Int × Int × Unit)) (x1 : Int) : Am.runN tab ext12 false 59 [] 2000 [] [] [0, 1, 5] [] [] [.code b12] (entE 0 0 sig12 (x0, x1, ())) (entL sig12 (x0, x1, ())) = some (cutAt b12 2, E12_2 (0) (x0) (x1), L12_2 (0) (x0) (x1), []) := by kernel_rfl
theorem p12_1 (v5 : Int) (x0 : List (ByteArray × Int × Int × Int × Int × Unit)) (x1 : Int) : runF tab ext12 false 59 [] 2000 [] tys12 Tryz.f12.results [true, true] (cutAt b12 2) (E12_2 v5 x0 x1) (L12_2 v5 x0 x1) = some ([Dyn.mk (Ty.int IntKind.i64) (-1)], [], [Decidable.decide (v5 < (↑(List.length x0) : Int)) = Bool.true, 0 ≤ v5, v5 < (↑(List.length x0) : Int), True, (!ByteArray.toList (Prod.fst (List.getD x0 (Int.toNat v5) (ByteArray.empty, 0, 0, 0, 0, ()))) == ByteArray.toList (g21_0 x1)) = Bool.true]) := by kernel_rfl
theorem p12_2 (v5 : Int) (x0 : List (ByteArray × Int × Int × Int × Int × Unit)) (x1 : Int) : runF tab ext12 false 59 [] 2000 [] tys12 Tryz.f12.results [true, false, true] (cutAt b12 2) (E12_2 v5 x0 x1) (L12_2 v5 x0 x1) = some ([Dyn.mk (Ty.int IntKind.i64) (-1)], [], [Decidable.decide (v5 < (↑(List.length x0) : Int)) = Bool.true, 0 ≤ v5, v5 < (↑(List.length x0) : Int), True, (!ByteArray.toList (Prod.fst (List.getD x0 (Int.toNat v5) (ByteArray.empty, 0, 0, 0, 0, ()))) == ByteArray.toList (g21_0 x1)) = Bool.false, InR IntKind.i64 (x1 + 1), 0 ≤ v5, v5 < (↑(List.length x0) : Int), (Prod.fst (Prod.snd (List.getD x0 (Int.toNat v5) (ByteArray.empty, 0, 0, 0, 0, ()))) != x1 + 1) = Bool.true]) := by kernel_rfl
theorem p12_3 (v5 : Int) (x0 : List (ByteArray × Int × Int × Int × Int × Unit)) (x1 : Int) : runF tab ext12 false 59 [] 2000 [] tys12 Tryz.f12.results [true, false, false, true] (cutAt b12 2) (E12_2 v5 x0 x1) (L12_2 v5 x0 x1) = some ([Dyn.mk (Ty.int IntKind.i64) (-1)], [], [Decidable.decide (v5 < (↑(List.length x0) : Int)) = Bool.true, 0 ≤ v5, v5 < (↑(List.length x0) : Int), True, (!ByteArray.toList (Prod.fst (List.getD x0 (Int.toNat v5) (ByteArray.empty, 0, 0, 0, 0, ()))) == ByteArray.toList (g21_0 x1)) = Bool.false, InR IntKind.i64 (x1 + 1), 0 ≤ v5, v5 < (↑(List.length x0) : Int), (Prod.fst (Prod.snd (List.getD x0 (Int.toNat v5) (ByteArray.empty, 0, 0, 0, 0, ()))) != x1 + 1) = Bool.false, InR IntKind.i64 (x1 + 1 + 1), 0 ≤ v5, v5 < (↑(List.length x0) : Int), (Prod.fst (Prod.snd (Prod.snd (List.getD x0 (Int.toNat v5) (ByteArray.empty, 0, 0, 0, 0, ())))) != x1 + 1 + 1) = Bool.true]) := by kernel_rfl
theorem p12_4 (v5 : Int) (x0 : List (ByteArray × Int × Int × Int × Int × Unit)) (x1 : Int) : runF tab ext12 false 59 [] 2000 [] tys12 Tryz.f12.results [true, false, false, false, true] (cutAt b12 2) (E12_2 v5 x0 x1) (L12_2 v5 x0 x1) = some ([Dyn.mk (Ty.int IntKind.i64) (-1)], [], [Decidable.decide (v5 < (↑(List.length x0) : Int)) = Bool.true, 0 ≤ v5, v5 < (↑(List.length x0) : Int), True, (!ByteArray.toList (Prod.fst (List.getD x0 (Int.toNat v5) (ByteArray.empty, 0, 0, 0, 0, ()))) == ByteArray.toList (g21_0 x1)) = Bool.false, InR IntKind.i64 (x1 + 1), 0 ≤ v5, v5 < (↑(List.length x0) : Int), (Prod.fst (Prod.snd (List.getD x0 (Int.toNat v5) (ByteArray.empty, 0, 0, 0, 0, ()))) != x1 + 1) = Bool.false, InR IntKind.i64 (x1 + 1 + 1), 0 ≤ v5, v5 < (↑(List.length x0) : Int), (Prod.fst (Prod.snd (Prod.snd (List.getD x0 (Int.toNat v5) (ByteArray.empty, 0, 0, 0, 0, ())))) != x1 + 1 + 1) = Bool.false, InR IntKind.i64 (x1 + 1 + 1 + 1), 0 ≤ v5, v5 < (↑(List.length x0) : Int), (Prod.fst (Prod.snd (Prod.snd (Prod.snd (List.getD x0 (Int.toNat v5) (ByteArray.empty, 0, 0, 0, 0, ()))))) != x1 + 1 + 1 + 1) = Bool.true]) := by kernel_rfl
theorem p12_5 (v5 : Int) (x0 : List (ByteArray × Int × Int × Int × Int × Unit)) (x1 : Int) : runF tab ext12 false 59 [] 2000 [] tys12 Tryz.f12.results [true, false, false, false, false, true] (cutAt b12 2) (E12_2 v5 x0 x1) (L12_2 v5 x0 x1) = some ([Dyn.mk (Ty.int IntKind.i64) (-1)], [], [Decidable.decide (v5 < (↑(List.length x0) : Int)) = Bool.true, 0 ≤ v5, v5 < (↑(List.length x0) : Int), True, (!ByteArray.toList (Prod.fst (List.getD x0 (Int.toNat v5) (ByteArray.empty, 0, 0, 0, 0, ()))) == ByteArray.toList (g21_0 x1)) = Bool.false, InR IntKind.i64 (x1 + 1), 0 ≤ v5, v5 < (↑(List.length x0) : Int), (Prod.fst (Prod.snd (List.getD x0 (Int.toNat v5) (ByteArray.empty, 0, 0, 0, 0, ()))) != x1 + 1) = Bool.false, InR IntKind.i64 (x1 + 1 + 1), 0 ≤ v5, v5 < (↑(List.length x0) : Int), (Prod.fst (Prod.snd (Prod.snd (List.getD x0 (Int.toNat v5) (ByteArray.empty, 0, 0, 0, 0, ())))) != x1 + 1 + 1) = Bool.false, InR IntKind.i64 (x1 + 1 + 1 + 1), 0 ≤ v5, v5 < (↑(List.length x0) : Int), (Prod.fst (Prod.snd (Prod.snd (Prod.snd (List.getD x0 (Int.toNat v5) (ByteArray.empty, 0, 0, 0, 0, ()))))) != x1 + 1 + 1 + 1) = Bool.false, InR IntKind.i64 (x1 + 1 + 1 + 1 + 1), 0 ≤ v5, v5 < (↑(List.length x0) : Int), (Prod.fst (Prod.snd (Prod.snd (Prod.snd (Prod.snd (List.getD x0 (Int.toNat v5) (ByteArray.empty, 0, 0, 0, 0, ())))))) != x1 + 1 + 1 + 1 + 1) = Bool.true]) := by kernel_rfl
theorem p12_6 (v5 : Int) (x0 : List (ByteArray × Int × Int × Int × Int × Unit)) (x1 : Int) : Am.runN tab ext12 false 59 [] 2000 [] [] [0, 1, 5] [] [true, false, false, false, false, false] (cutAt b12 2) (E12_2 v5 x0 x1) (L12_2 v5 x0 x1) = some (cutAt b12 2, E12_2 (v5 + 1) (x0) (x1 + 1 + 1 + 1 + 1 + 1), L12_2 (v5 + 1) (x0) (x1 + 1 + 1 + 1 + 1 + 1), [Decidable.decide (v5 < (↑(List.length x0) : Int)) = Bool.true, 0 ≤ v5, v5 < (↑(List.length x0) : Int), True, (!ByteArray.toList (Prod.fst (List.getD x0 (Int.toNat v5) (ByteArray.empty, 0, 0, 0, 0, ()))) == ByteArray.toList (g21_0 x1)) = Bool.false, InR IntKind.i64 (x1 + 1), 0 ≤ v5, v5 < (↑(List.length x0) : Int), (Prod.fst (Prod.snd (List.getD x0 (Int.toNat v5) (ByteArray.empty, 0, 0, 0, 0, ()))) != x1 + 1) = Bool.false, InR IntKind.i64 (x1 + 1 + 1), 0 ≤ v5, v5 < (↑(List.length x0) : Int), (Prod.fst (Prod.snd (Prod.snd (List.getD x0 (Int.toNat v5) (ByteArray.empty, 0, 0, 0, 0, ())))) != x1 + 1 + 1) = Bool.false, InR IntKind.i64 (x1 + 1 + 1 + 1), 0 ≤ v5, v5 < (↑(List.length x0) : Int), (Prod.fst (Prod.snd (Prod.snd (Prod.snd (List.getD x0 (Int.toNat v5) (ByteArray.empty, 0, 0, 0, 0, ()))))) != x1 + 1 + 1 + 1) = Bool.false, InR IntKind.i64 (x1 + 1 + 1 + 1 + 1), 0 ≤ v5, v5 < (↑(List.length x0) : Int), (Prod.fst (Prod.snd (Prod.snd (Prod.snd (Prod.snd (List.getD x0 (Int.toNat v5) (ByteArray.empty, 0, 0, 0, 0, ())))))) != x1 + 1 + 1 + 1 + 1) = Bool.false, InR IntKind.i64 (x1 + 1 + 1 + 1 + 1 + 1), InR IntKind.i64 (v5 + 1)]) := by kernel_rfl
theorem p12_7 (v5 : Int) (x0 : List (ByteArray × Int × Int × Int × Int × Unit)) (x1 : Int) : runF tab ext12 false 59 [] 2000 [] tys12 Tryz.f12.results [false] (cutAt b12 2) (E12_2 v5 x0 x1) (L12_2 v5 x0 x1) = some ([Dyn.mk (Ty.int IntKind.i64) x1], [], [Decidable.decide (v5 < (↑(List.length x0) : Int)) = Bool.false]) := by kernel_rfl
theorem snd12 : ∀ n, (∀ (x0 : List (ByteArray × Int × Int × Int × Int × Unit)) (x1 : Int) ds, R12 n x0 x1 ds → ∀ w0 O q, AtV Tryz.prog 12 (PostR ds [] [] q w0 O) 59 w0 O q [] [.code b12] (entE 0 0 sig12 (x0, x1, ())) (entL sig12 (x0, x1, ()))) ∧ (∀ (v5 : Int) (x0 : List (ByteArray × Int × Int × Int × Int × Unit)) (x1 : Int) ds, R12_2 n v5 x0 x1 ds → ∀ w0 O q, AtV Tryz.prog 12 (PostR ds [] [] q w0 O) 59 w0 O q [] (cutAt b12 2) (E12_2 v5 x0 x1) (L12_2 v5 x0 x1)) := by
  intro n
  induction n with
  | zero => exact ⟨fun _ _ _ h => by simp only [R12] at h, fun _ _ _ _ h => by simp only [R12_2] at h⟩
  | succ n ih =>
  obtain ⟨ih, ih2⟩ := ih
  refine ⟨?_, ?_⟩
  · intro x0 x1 ds h w0 O q
    rw [R12] at h
    exact AtV.runN tabOk ext12Ok mixed (p12_0 x0 x1) trivial (ih2 _ _ _ _ h w0 O q)

  · intro v5 x0 x1 ds h w0 O q
    rw [R12_2] at h
    by_cases b0 : (Decidable.decide (v5 < (↑(List.length x0) : Int))) = true
    · rw [if_pos b0] at h
      obtain ⟨s0, s1, h⟩ := h
      by_cases b1 : (!ByteArray.toList (Prod.fst (List.getD x0 (Int.toNat v5) (ByteArray.empty, 0, 0, 0, 0, ()))) == ByteArray.toList (g21_0 x1)) = true
      · rw [if_pos b1] at h
        subst h
        exact AtV.fin Tryz.func12 tabOk ext12Ok mixed (p12_1 v5 x0 x1) ⟨b0, s0, s1, trivial, b1, trivial⟩
      · rw [if_neg b1] at h
        replace b1 := Bool.eq_false_iff.2 b1
        obtain ⟨s2, h⟩ := h
        obtain ⟨s3, s4, h⟩ := h
        by_cases b2 : (Prod.fst (Prod.snd (List.getD x0 (Int.toNat v5) (ByteArray.empty, 0, 0, 0, 0, ()))) != x1 + 1) = true
        · rw [if_pos b2] at h
          subst h
          exact AtV.fin Tryz.func12 tabOk ext12Ok mixed (p12_2 v5 x0 x1) ⟨b0, s0, s1, trivial, b1, s2, s3, s4, b2, trivial⟩
        · rw [if_neg b2] at h
          replace b2 := Bool.eq_false_iff.2 b2
          obtain ⟨s5, h⟩ := h
          obtain ⟨s6, s7, h⟩ := h
          by_cases b3 : (Prod.fst (Prod.snd (Prod.snd (List.getD x0 (Int.toNat v5) (ByteArray.empty, 0, 0, 0, 0, ())))) != x1 + 1 + 1) = true
          · rw [if_pos b3] at h
            subst h
            exact AtV.fin Tryz.func12 tabOk ext12Ok mixed (p12_3 v5 x0 x1) ⟨b0, s0, s1, trivial, b1, s2, s3, s4, b2, s5, s6, s7, b3, trivial⟩
          · rw [if_neg b3] at h
            replace b3 := Bool.eq_false_iff.2 b3
            obtain ⟨s8, h⟩ := h
            obtain ⟨s9, s10, h⟩ := h
            by_cases b4 : (Prod.fst (Prod.snd (Prod.snd (Prod.snd (List.getD x0 (Int.toNat v5) (ByteArray.empty, 0, 0, 0, 0, ()))))) != x1 + 1 + 1 + 1) = true
            · rw [if_pos b4] at h
              subst h
              exact AtV.fin Tryz.func12 tabOk ext12Ok mixed (p12_4 v5 x0 x1) ⟨b0, s0, s1, trivial, b1, s2, s3, s4, b2, s5, s6, s7, b3, s8, s9, s10, b4, trivial⟩
            · rw [if_neg b4] at h
              replace b4 := Bool.eq_false_iff.2 b4
              obtain ⟨s11, h⟩ := h
              obtain ⟨s12, s13, h⟩ := h
              by_cases b5 : (Prod.fst (Prod.snd (Prod.snd (Prod.snd (Prod.snd (List.getD x0 (Int.toNat v5) (ByteArray.empty, 0, 0, 0, 0, ())))))) != x1 + 1 + 1 + 1 + 1) = true
              · rw [if_pos b5] at h
                subst h
                exact AtV.fin Tryz.func12 tabOk ext12Ok mixed (p12_5 v5 x0 x1) ⟨b0, s0, s1, trivial, b1, s2, s3, s4, b2, s5, s6, s7, b3, s8, s9, s10, b4, s11, s12, s13, b5, trivial⟩
              · rw [if_neg b5] at h
                replace b5 := Bool.eq_false_iff.2 b5
                obtain ⟨s14, h⟩ := h
                obtain ⟨s15, h⟩ := h
                exact AtV.runN tabOk ext12Ok mixed (p12_6 v5 x0 x1) ⟨b0, s0, s1, trivial, b1, s2, s3, s4, b2, s5, s6, s7, b3, s8, s9, s10, b4, s11, s12, s13, b5, s14, s15, trivial⟩ (ih2 _ _ _ _ h w0 O q)
    · rw [if_neg b0] at h
      replace b0 := Bool.eq_false_iff.2 b0
      subst h
      exact AtV.fin Tryz.func12 tabOk ext12Ok mixed (p12_7 v5 x0 x1) ⟨b0, trivial⟩



theorem run12 (x0 : List (ByteArray × Int × Int × Int × Int × Unit)) (x1 : Int) (hm : x0.length ≤ maxLen) (h0 : 0 ≤ x1) (h1 : x1 + 5 * x0.length ≤ 9223372036854775807) (he : ∀ i : Nat, i < x0.length → x0.getD i (ByteArray.empty, (0 : Int), (0 : Int), (0 : Int), (0 : Int), ()) = (g21_0 (x1 + 5 * (i : Int)), (x1 + 5 * (i : Int) + 1), (x1 + 5 * (i : Int) + 1 + 1), (x1 + 5 * (i : Int) + 1 + 1 + 1), (x1 + 5 * (i : Int) + 1 + 1 + 1 + 1), ())) : ∀ (k i : Nat), i + k = x0.length →
    R12_2 (k + 1) (i : Int) x0 (x1 + 5 * (i : Int)) [⟨.int .i64, x1 + 5 * (x0.length : Int)⟩] := by
  intro k
  induction k with
  | zero =>
    intro i hi
    rw [R12_2, if_neg (by simp; omega)]
    have : i = x0.length := by omega
    subst this
    rfl
  | succ k ih =>
    intro i hi
    rw [R12_2, if_pos (by simp; omega)]
    simp only [Int.toNat_natCast, he i (by omega)]
    have hb : ∀ y : ByteArray, (!(ByteArray.toList y == ByteArray.toList y)) = true → False := fun y h => by rw [(bytes_eq y y).2 rfl] at h; cases h
    refine ⟨by omega, by omega, ?_⟩
    rw [if_neg (hb _)]
    refine ⟨by rw [i64_iff]; omega, by omega, by omega, ?_⟩
    rw [if_neg (by simp only [bne_self_eq_false, Bool.false_eq_true, not_false_eq_true])]
    refine ⟨by rw [i64_iff]; omega, by omega, by omega, ?_⟩
    rw [if_neg (by simp only [bne_self_eq_false, Bool.false_eq_true, not_false_eq_true])]
    refine ⟨by rw [i64_iff]; omega, by omega, by omega, ?_⟩
    rw [if_neg (by simp only [bne_self_eq_false, Bool.false_eq_true, not_false_eq_true])]
    refine ⟨by rw [i64_iff]; omega, by omega, by omega, ?_⟩
    rw [if_neg (by simp only [bne_self_eq_false, Bool.false_eq_true, not_false_eq_true])]
    refine ⟨by rw [i64_iff]; omega, inR_up hm (by omega), ?_⟩
    have hx : x1 + 5 * (i : Int) + 1 + 1 + 1 + 1 + 1 = x1 + 5 * ((i + 1 : Nat) : Int) := by omega
    rw [hx]
    exact ih (i + 1) (by omega)

def P12 (x0 : List (ByteArray × Int × Int × Int × Int × Unit)) (x1 : Int) : Prop := (0 ≤ x1 ∧ x1 + 5 * x0.length ≤ 9223372036854775807) ∧ ∀ i : Nat, i < x0.length → x0.getD i (ByteArray.empty, (0 : Int), (0 : Int), (0 : Int), (0 : Int), ()) = (g21_0 (x1 + 5 * (i : Int)), (x1 + 5 * (i : Int) + 1), (x1 + 5 * (i : Int) + 1 + 1), (x1 + 5 * (i : Int) + 1 + 1 + 1), (x1 + 5 * (i : Int) + 1 + 1 + 1 + 1), ())
def g12_0 (x0 : List (ByteArray × Int × Int × Int × Int × Unit)) (x1 : Int) : Int := x1 + 5 * (x0.length : Int)

theorem top12 (x0 : List (ByteArray × Int × Int × Int × Int × Unit)) (x1 : Int) (hm : x0.length ≤ maxLen) (h : P12 x0 x1) : R12 (x0.length + 1 + 1) x0 x1 [⟨.int .i64, g12_0 x0 x1⟩] := by
  rw [R12]
  have := run12 x0 x1 hm h.1.1 h.1.2 h.2 x0.length 0 (by omega)
  simpa [g12_0] using this

def S12 : Am.Spec := { sig := sig12, pre := fun ⟨x0, x1, _⟩ => P12 x0 x1, res := fun ⟨x0, x1, _⟩ => [⟨.int .i64, g12_0 x0 x1⟩] }
theorem con12 : Contract Tryz.prog 12 S12 := contract_of Tryz.func12 hb12 (Nat.le_of_ble_eq_true (by kernel_rfl)) (fun ⟨x0, x1, _⟩ h hwf w0 O q =>
  (snd12 _).1 x0 x1 _ (top12 x0 x1 hwf.1.1 h) w0 O q)

end Go.Proofs.YteojabdeehagnaaGreatDoor

/- Function 3 (laws.FnExactChecksOfBlocks): its runs between cut points. Written by a program of this repo (gen). -/
set_option linter.unusedVariables false
set_option linter.unusedSimpArgs false
set_option maxRecDepth 100000
namespace Go.Proofs.YteojabdeehagnaaGreatDoor
open Go Go.Am Go.Proofs
def ext3 : Ext := [(4, S4), (6, S6), (5, S5), (7, S7), (8, S8), (9, S9), (10, S10), (11, S11), (12, S12)]
theorem call3_4 : Callable Tryz.prog 4 := ⟨Tryz.f4, Tryz.func4, by kernel_rfl, by kernel_rfl⟩
theorem call3_6 : Callable Tryz.prog 6 := ⟨Tryz.f6, Tryz.func6, by kernel_rfl, by kernel_rfl⟩
theorem call3_5 : Callable Tryz.prog 5 := ⟨Tryz.f5, Tryz.func5, by kernel_rfl, by kernel_rfl⟩
theorem call3_7 : Callable Tryz.prog 7 := ⟨Tryz.f7, Tryz.func7, by kernel_rfl, by kernel_rfl⟩
theorem call3_8 : Callable Tryz.prog 8 := ⟨Tryz.f8, Tryz.func8, by kernel_rfl, by kernel_rfl⟩
theorem call3_9 : Callable Tryz.prog 9 := ⟨Tryz.f9, Tryz.func9, by kernel_rfl, by kernel_rfl⟩
theorem call3_10 : Callable Tryz.prog 10 := ⟨Tryz.f10, Tryz.func10, by kernel_rfl, by kernel_rfl⟩
theorem call3_11 : Callable Tryz.prog 11 := ⟨Tryz.f11, Tryz.func11, by kernel_rfl, by kernel_rfl⟩
theorem call3_12 : Callable Tryz.prog 12 := ⟨Tryz.f12, Tryz.func12, by kernel_rfl, by kernel_rfl⟩
theorem ext3Ok : ExtOk Tryz.prog ext3 := ⟨⟨call3_4, con4⟩, ⟨call3_6, con6⟩, ⟨call3_5, con5⟩, ⟨call3_7, con7⟩, ⟨call3_8, con8⟩, ⟨call3_9, con9⟩, ⟨call3_10, con10⟩, ⟨call3_11, con11⟩, ⟨call3_12, con12⟩, trivial⟩
/-! Function 3. -/
noncomputable def b3 : Code := bodyOf Tryz.f3
theorem hb3 : Tryz.f3.body = some b3 := by kernel_rfl
def sig3 : List AT := [AT.v (Ty.sl (Ty.cons Ty.str (Ty.cons Ty.str (Ty.cons Ty.str Ty.unit))))]
def tys3 : List Ty := [Ty.bool]
def P3 (x0 : List (ByteArray × ByteArray × ByteArray × Unit)) : Prop := ((P4 x0 1048576) ∧ (if (Decidable.decide (g4_0 x0 1048576 < 0)) = true then True else ((P6 x0) ∧ ((P5 (g6_0 x0)) ∧ ((P6 x0) ∧ ((P7 (g6_0 x0)) ∧ (if (!g8_0 (g7_0 (g6_0 x0)) (g5_0 (g6_0 x0))) = true then True else (if (g7_1 (g6_0 x0) != g5_1 (g6_0 x0)) = true then True else ((P6 x0) ∧ (if (!g9_0 (g6_0 x0) (g6_0 x0)) = true then True else ((P10 (g6_0 x0) 1) ∧ (List.length (u10_0 (g6_0 x0) 1) = List.length (g6_0 x0)) ∧ (if (Decidable.decide (g10_0 (g6_0 x0) 1 < 0)) = true then True else ((P11 (g7_0 (g6_0 x0)) 1) ∧ (List.length (u11_0 (g7_0 (g6_0 x0)) 1) = List.length (g7_0 (g6_0 x0))) ∧ ((P12 (u11_0 (g7_0 (g6_0 x0)) 1) 1) ∧ (if (Decidable.decide (g12_0 (u11_0 (g7_0 (g6_0 x0)) 1) 1 < 0)) = true then True else (if (g12_0 (u11_0 (g7_0 (g6_0 x0)) 1) 1 != g11_0 (g7_0 (g6_0 x0)) 1) = true then True else ((P6 x0) ∧ ((P7 (g6_0 x0)) ∧ ((P12 (u11_0 (g7_0 (g6_0 x0)) 1) 1) ∧ True)))))))))))))))))))
def g3_0 (x0 : List (ByteArray × ByteArray × ByteArray × Unit)) : Bool := (if (Decidable.decide (g4_0 x0 1048576 < 0)) = true then Bool.true else (if (!g8_0 (g7_0 (g6_0 x0)) (g5_0 (g6_0 x0))) = true then Bool.false else (if (g7_1 (g6_0 x0) != g5_1 (g6_0 x0)) = true then Bool.false else (if (!g9_0 (g6_0 x0) (g6_0 x0)) = true then Bool.false else (if (Decidable.decide (g10_0 (g6_0 x0) 1 < 0)) = true then Bool.false else (if (Decidable.decide (g12_0 (u11_0 (g7_0 (g6_0 x0)) 1) 1 < 0)) = true then Bool.false else (if (g12_0 (u11_0 (g7_0 (g6_0 x0)) 1) 1 != g11_0 (g7_0 (g6_0 x0)) 1) = true then Bool.false else Bool.true)))))))
theorem p3_0 (x0 : List (ByteArray × ByteArray × ByteArray × Unit)) : runF tab ext3 false 96 [] 2000 [] tys3 Tryz.f3.results [true] [.code b3] (entE 0 0 sig3 (x0, ())) (entL sig3 (x0, ())) = some ([Dyn.mk Ty.bool Bool.true], [], [P4 x0 1048576, Decidable.decide (g4_0 x0 1048576 < 0) = Bool.true]) := by kernel_rfl
theorem p3_1 (x0 : List (ByteArray × ByteArray × ByteArray × Unit)) : runF tab ext3 false 96 [] 2000 [] tys3 Tryz.f3.results [false, true, true] [.code b3] (entE 0 0 sig3 (x0, ())) (entL sig3 (x0, ())) = some ([Dyn.mk Ty.bool Bool.false], [], [P4 x0 1048576, Decidable.decide (g4_0 x0 1048576 < 0) = Bool.false, P6 x0, P5 (g6_0 x0), P6 x0, P7 (g6_0 x0), True, (!g8_0 (g7_0 (g6_0 x0)) (g5_0 (g6_0 x0))) = Bool.true, Bool.true = Bool.true]) := by kernel_rfl
theorem p3_2 (x0 : List (ByteArray × ByteArray × ByteArray × Unit)) : runF tab ext3 false 96 [] 2000 [] tys3 Tryz.f3.results [false, false, true] [.code b3] (entE 0 0 sig3 (x0, ())) (entL sig3 (x0, ())) = some ([Dyn.mk Ty.bool Bool.false], [], [P4 x0 1048576, Decidable.decide (g4_0 x0 1048576 < 0) = Bool.false, P6 x0, P5 (g6_0 x0), P6 x0, P7 (g6_0 x0), True, (!g8_0 (g7_0 (g6_0 x0)) (g5_0 (g6_0 x0))) = Bool.false, (g7_1 (g6_0 x0) != g5_1 (g6_0 x0)) = Bool.true]) := by kernel_rfl
theorem p3_3 (x0 : List (ByteArray × ByteArray × ByteArray × Unit)) : runF tab ext3 false 96 [] 2000 [] tys3 Tryz.f3.results [false, false, false, true] [.code b3] (entE 0 0 sig3 (x0, ())) (entL sig3 (x0, ())) = some ([Dyn.mk Ty.bool Bool.false], [], [P4 x0 1048576, Decidable.decide (g4_0 x0 1048576 < 0) = Bool.false, P6 x0, P5 (g6_0 x0), P6 x0, P7 (g6_0 x0), True, (!g8_0 (g7_0 (g6_0 x0)) (g5_0 (g6_0 x0))) = Bool.false, (g7_1 (g6_0 x0) != g5_1 (g6_0 x0)) = Bool.false, P6 x0, True, (!g9_0 (g6_0 x0) (g6_0 x0)) = Bool.true]) := by kernel_rfl
theorem p3_4 (x0 : List (ByteArray × ByteArray × ByteArray × Unit)) : runF tab ext3 false 96 [] 2000 [] tys3 Tryz.f3.results [false, false, false, false, true, true, true] [.code b3] (entE 0 0 sig3 (x0, ())) (entL sig3 (x0, ())) = some ([Dyn.mk Ty.bool Bool.false], [], [P4 x0 1048576, Decidable.decide (g4_0 x0 1048576 < 0) = Bool.false, P6 x0, P5 (g6_0 x0), P6 x0, P7 (g6_0 x0), True, (!g8_0 (g7_0 (g6_0 x0)) (g5_0 (g6_0 x0))) = Bool.false, (g7_1 (g6_0 x0) != g5_1 (g6_0 x0)) = Bool.false, P6 x0, True, (!g9_0 (g6_0 x0) (g6_0 x0)) = Bool.false, P10 (g6_0 x0) 1, List.length (u10_0 (g6_0 x0) 1) = List.length (g6_0 x0), Decidable.decide (g10_0 (g6_0 x0) 1 < 0) = Bool.true, Bool.true = Bool.true, Bool.true = Bool.true]) := by kernel_rfl
theorem p3_5 (x0 : List (ByteArray × ByteArray × ByteArray × Unit)) : runF tab ext3 false 96 [] 2000 [] tys3 Tryz.f3.results [false, false, false, false, false, false, false, true] [.code b3] (entE 0 0 sig3 (x0, ())) (entL sig3 (x0, ())) = some ([Dyn.mk Ty.bool Bool.false], [], [P4 x0 1048576, Decidable.decide (g4_0 x0 1048576 < 0) = Bool.false, P6 x0, P5 (g6_0 x0), P6 x0, P7 (g6_0 x0), True, (!g8_0 (g7_0 (g6_0 x0)) (g5_0 (g6_0 x0))) = Bool.false, (g7_1 (g6_0 x0) != g5_1 (g6_0 x0)) = Bool.false, P6 x0, True, (!g9_0 (g6_0 x0) (g6_0 x0)) = Bool.false, P10 (g6_0 x0) 1, List.length (u10_0 (g6_0 x0) 1) = List.length (g6_0 x0), Decidable.decide (g10_0 (g6_0 x0) 1 < 0) = Bool.false, True, (!g8_0 (g7_0 (g6_0 x0)) (g5_0 (g6_0 x0))) = Bool.false, (g7_1 (g6_0 x0) != g5_1 (g6_0 x0)) = Bool.false, P11 (g7_0 (g6_0 x0)) 1, List.length (u11_0 (g7_0 (g6_0 x0)) 1) = List.length (g7_0 (g6_0 x0)), P12 (u11_0 (g7_0 (g6_0 x0)) 1) 1, Decidable.decide (g12_0 (u11_0 (g7_0 (g6_0 x0)) 1) 1 < 0) = Bool.true]) := by kernel_rfl
theorem p3_6 (x0 : List (ByteArray × ByteArray × ByteArray × Unit)) : runF tab ext3 false 96 [] 2000 [] tys3 Tryz.f3.results [false, false, false, false, false, false, false, false, true] [.code b3] (entE 0 0 sig3 (x0, ())) (entL sig3 (x0, ())) = some ([Dyn.mk Ty.bool Bool.false], [], [P4 x0 1048576, Decidable.decide (g4_0 x0 1048576 < 0) = Bool.false, P6 x0, P5 (g6_0 x0), P6 x0, P7 (g6_0 x0), True, (!g8_0 (g7_0 (g6_0 x0)) (g5_0 (g6_0 x0))) = Bool.false, (g7_1 (g6_0 x0) != g5_1 (g6_0 x0)) = Bool.false, P6 x0, True, (!g9_0 (g6_0 x0) (g6_0 x0)) = Bool.false, P10 (g6_0 x0) 1, List.length (u10_0 (g6_0 x0) 1) = List.length (g6_0 x0), Decidable.decide (g10_0 (g6_0 x0) 1 < 0) = Bool.false, True, (!g8_0 (g7_0 (g6_0 x0)) (g5_0 (g6_0 x0))) = Bool.false, (g7_1 (g6_0 x0) != g5_1 (g6_0 x0)) = Bool.false, P11 (g7_0 (g6_0 x0)) 1, List.length (u11_0 (g7_0 (g6_0 x0)) 1) = List.length (g7_0 (g6_0 x0)), P12 (u11_0 (g7_0 (g6_0 x0)) 1) 1, Decidable.decide (g12_0 (u11_0 (g7_0 (g6_0 x0)) 1) 1 < 0) = Bool.false, (g12_0 (u11_0 (g7_0 (g6_0 x0)) 1) 1 != g11_0 (g7_0 (g6_0 x0)) 1) = Bool.true]) := by kernel_rfl
theorem p3_7 (x0 : List (ByteArray × ByteArray × ByteArray × Unit)) : runF tab ext3 false 96 [] 2000 [] tys3 Tryz.f3.results [false, false, false, false, false, false, false, false, false, false, false, false, false] [.code b3] (entE 0 0 sig3 (x0, ())) (entL sig3 (x0, ())) = some ([Dyn.mk Ty.bool Bool.true], [], [P4 x0 1048576, Decidable.decide (g4_0 x0 1048576 < 0) = Bool.false, P6 x0, P5 (g6_0 x0), P6 x0, P7 (g6_0 x0), True, (!g8_0 (g7_0 (g6_0 x0)) (g5_0 (g6_0 x0))) = Bool.false, (g7_1 (g6_0 x0) != g5_1 (g6_0 x0)) = Bool.false, P6 x0, True, (!g9_0 (g6_0 x0) (g6_0 x0)) = Bool.false, P10 (g6_0 x0) 1, List.length (u10_0 (g6_0 x0) 1) = List.length (g6_0 x0), Decidable.decide (g10_0 (g6_0 x0) 1 < 0) = Bool.false, True, (!g8_0 (g7_0 (g6_0 x0)) (g5_0 (g6_0 x0))) = Bool.false, (g7_1 (g6_0 x0) != g5_1 (g6_0 x0)) = Bool.false, P11 (g7_0 (g6_0 x0)) 1, List.length (u11_0 (g7_0 (g6_0 x0)) 1) = List.length (g7_0 (g6_0 x0)), P12 (u11_0 (g7_0 (g6_0 x0)) 1) 1, Decidable.decide (g12_0 (u11_0 (g7_0 (g6_0 x0)) 1) 1 < 0) = Bool.false, (g12_0 (u11_0 (g7_0 (g6_0 x0)) 1) 1 != g11_0 (g7_0 (g6_0 x0)) 1) = Bool.false, P6 x0, P7 (g6_0 x0), True, (!g8_0 (g7_0 (g6_0 x0)) (g5_0 (g6_0 x0))) = Bool.false, (g7_1 (g6_0 x0) != g5_1 (g6_0 x0)) = Bool.false, P12 (u11_0 (g7_0 (g6_0 x0)) 1) 1, Decidable.decide (g12_0 (u11_0 (g7_0 (g6_0 x0)) 1) 1 < 0) = Bool.false, (g12_0 (u11_0 (g7_0 (g6_0 x0)) 1) 1 != g11_0 (g7_0 (g6_0 x0)) 1) = Bool.false]) := by kernel_rfl
theorem at3 (x0 : List (ByteArray × ByteArray × ByteArray × Unit)) (h : P3 x0) (w0 : World) (O : List Nat) (q : Nat → Value) : AtV Tryz.prog 3 (PostR [⟨Ty.bool, g3_0 x0⟩] [] [] q w0 O) 96 w0 O q [] [.code b3] (entE 0 0 sig3 (x0, ())) (entL sig3 (x0, ())) := by
  unfold P3 at h
  unfold g3_0
  obtain ⟨s0, h⟩ := h
  by_cases b0 : (Decidable.decide (g4_0 x0 1048576 < 0)) = true
  · try simp only [if_pos b0] at h ⊢
    exact AtV.fin Tryz.func3 tabOk ext3Ok mixed (p3_0 x0) ⟨s0, b0, trivial⟩
  · try simp only [if_neg b0] at h ⊢
    replace b0 := Bool.eq_false_iff.2 b0
    obtain ⟨s1, h⟩ := h
    obtain ⟨s2, h⟩ := h
    obtain ⟨s3, h⟩ := h
    obtain ⟨s4, h⟩ := h
    by_cases b1 : (!g8_0 (g7_0 (g6_0 x0)) (g5_0 (g6_0 x0))) = true
    · try simp only [if_pos b1] at h ⊢
      exact AtV.fin Tryz.func3 tabOk ext3Ok mixed (p3_1 x0) ⟨s0, b0, s1, s2, s3, s4, trivial, b1, rfl, trivial⟩
    · try simp only [if_neg b1] at h ⊢
      replace b1 := Bool.eq_false_iff.2 b1
      by_cases b2 : (g7_1 (g6_0 x0) != g5_1 (g6_0 x0)) = true
      · try simp only [if_pos b2] at h ⊢
        exact AtV.fin Tryz.func3 tabOk ext3Ok mixed (p3_2 x0) ⟨s0, b0, s1, s2, s3, s4, trivial, b1, b2, trivial⟩
      · try simp only [if_neg b2] at h ⊢
        replace b2 := Bool.eq_false_iff.2 b2
        obtain ⟨s5, h⟩ := h
        by_cases b3 : (!g9_0 (g6_0 x0) (g6_0 x0)) = true
        · try simp only [if_pos b3] at h ⊢
          exact AtV.fin Tryz.func3 tabOk ext3Ok mixed (p3_3 x0) ⟨s0, b0, s1, s2, s3, s4, trivial, b1, b2, s5, trivial, b3, trivial⟩
        · try simp only [if_neg b3] at h ⊢
          replace b3 := Bool.eq_false_iff.2 b3
          obtain ⟨s6, s7, h⟩ := h
          by_cases b4 : (Decidable.decide (g10_0 (g6_0 x0) 1 < 0)) = true
          · try simp only [if_pos b4] at h ⊢
            exact AtV.fin Tryz.func3 tabOk ext3Ok mixed (p3_4 x0) ⟨s0, b0, s1, s2, s3, s4, trivial, b1, b2, s5, trivial, b3, s6, s7, b4, rfl, rfl, trivial⟩
          · try simp only [if_neg b4] at h ⊢
            replace b4 := Bool.eq_false_iff.2 b4
            obtain ⟨s8, s9, h⟩ := h
            obtain ⟨s10, h⟩ := h
            by_cases b5 : (Decidable.decide (g12_0 (u11_0 (g7_0 (g6_0 x0)) 1) 1 < 0)) = true
            · try simp only [if_pos b5] at h ⊢
              exact AtV.fin Tryz.func3 tabOk ext3Ok mixed (p3_5 x0) ⟨s0, b0, s1, s2, s3, s4, trivial, b1, b2, s5, trivial, b3, s6, s7, b4, trivial, b1, b2, s8, s9, s10, b5, trivial⟩
            · try simp only [if_neg b5] at h ⊢
              replace b5 := Bool.eq_false_iff.2 b5
              by_cases b6 : (g12_0 (u11_0 (g7_0 (g6_0 x0)) 1) 1 != g11_0 (g7_0 (g6_0 x0)) 1) = true
              · try simp only [if_pos b6] at h ⊢
                exact AtV.fin Tryz.func3 tabOk ext3Ok mixed (p3_6 x0) ⟨s0, b0, s1, s2, s3, s4, trivial, b1, b2, s5, trivial, b3, s6, s7, b4, trivial, b1, b2, s8, s9, s10, b5, b6, trivial⟩
              · try simp only [if_neg b6] at h ⊢
                replace b6 := Bool.eq_false_iff.2 b6
                obtain ⟨s11, h⟩ := h
                obtain ⟨s12, h⟩ := h
                obtain ⟨s13, h⟩ := h
                exact AtV.fin Tryz.func3 tabOk ext3Ok mixed (p3_7 x0) ⟨s0, b0, s1, s2, s3, s4, trivial, b1, b2, s5, trivial, b3, s6, s7, b4, trivial, b1, b2, s8, s9, s10, b5, b6, s11, s12, trivial, b1, b2, s13, b5, b6, trivial⟩

def S3 : Am.Spec := { sig := sig3, pre := fun ⟨x0, _⟩ => P3 x0, res := fun ⟨x0, _⟩ => [⟨Ty.bool, g3_0 x0⟩] }
theorem con3 : Contract Tryz.prog 3 S3 := contract_of Tryz.func3 hb3 (Nat.le_of_ble_eq_true (by kernel_rfl)) (fun ⟨x0, _⟩ h _ w0 O q => at3 x0 h w0 O q)


end Go.Proofs.YteojabdeehagnaaGreatDoor

/- A law that says how functions of the program and of the specification hang together. -/
set_option linter.unusedVariables false
set_option linter.unusedSimpArgs false
set_option maxRecDepth 100000
namespace Go.Proofs.YteojabdeehagnaaGreatDoor
open Go Go.Am Go.Proofs

/-- A digit. -/
def isD (b : UInt8) : Prop := 48 ≤ b.toNat ∧ b.toNat ≤ 57
/-- The value of digits. -/
def dval : List UInt8 → Nat → Nat
  | [], n => n
  | b :: r, n => dval r (10 * n + (b.toNat - 48))
theorem dval_append : ∀ (l : List UInt8) (b : UInt8) (n : Nat), dval (l ++ [b]) n = 10 * dval l n + (b.toNat - 48)
  | [], _, _ => rfl
  | c :: r, b, n => dval_append r b _
theorem dval_pos : ∀ (l : List UInt8) (n : Nat), 1 ≤ n → 1 ≤ dval l n
  | [], _, h => h
  | b :: r, n, h => dval_pos r _ (by omega)

theorem dsign_nat {a : Nat} (h : a < 10) : (UInt8.ofNat (48 + a)).toNat = 48 + a := by rw [UInt8.toNat_ofNat']; omega

theorem dec_facts (n : Nat) : (∀ b ∈ Lib.decDigits n, isD b) ∧ dval (Lib.decDigits n) 0 = n ∧ 0 < (Lib.decDigits n).length ∧ (1 ≤ n → ((Lib.decDigits n).getD 0 0).toNat ≠ 48) := by
  induction n using Nat.strongRecOn with
  | _ n ih =>
    by_cases h : n < 10
    · rw [Lib.decDigits, dif_pos h]
      have e := dsign_nat h
      refine ⟨fun b hb => ?_, ?_, by simp, fun h1 => ?_⟩
      · rw [List.mem_singleton.1 hb]; unfold isD; omega
      · show 10 * 0 + ((UInt8.ofNat (48 + n)).toNat - 48) = n; omega
      · show (UInt8.ofNat (48 + n)).toNat ≠ 48; omega
    · rw [Lib.decDigits, dif_neg h]
      obtain ⟨i1, i2, i3, i4⟩ := ih (n / 10) (by omega)
      have e := dsign_nat (a := n % 10) (by omega)
      refine ⟨fun b hb => ?_, ?_, by simp, fun h1 => ?_⟩
      · rcases List.mem_append.1 hb with hb | hb
        · exact i1 b hb
        · rw [List.mem_singleton.1 hb]; unfold isD; omega
      · rw [dval_append, i2, e]; omega
      · have i4 := i4 (by omega)
        cases hd : Lib.decDigits (n / 10) with
        | nil => rw [hd] at i3; simp at i3
        | cons c r => rw [hd] at i4; exact i4

theorem dec_canon (n : Nat) : ∀ l : List UInt8, l.length = n → (∀ b ∈ l, isD b) → 0 < l.length → ((l.getD 0 0).toNat ≠ 48 ∨ l.length = 1) → Lib.decDigits (dval l 0) = l := by
  induction n with
  | zero => intro l hl _ h0 _; omega
  | succ n ih =>
    intro l hl hd h0 hc
    rcases List.eq_nil_or_concat l with rfl | ⟨l', b, rfl⟩
    · simp at h0
    · rw [List.concat_eq_append] at *
      have hb : isD b := hd b (by simp)
      unfold isD at hb
      rw [dval_append]
      cases l' with
      | nil =>
        rw [Lib.decDigits, dif_pos (by show 10 * 0 + (b.toNat - 48) < 10; omega)]
        show [UInt8.ofNat (48 + (10 * 0 + (b.toNat - 48)))] = [b]
        congr 1
        rw [← UInt8.toNat_inj, UInt8.toNat_ofNat']; omega
      | cons c r =>
        have hc' : c.toNat ≠ 48 := by
          rcases hc with hc | hc
          · exact hc
          · simp at hc
        have hcd : isD c := hd c (by simp)
        unfold isD at hcd
        have hp : 1 ≤ dval (c :: r) 0 := dval_pos r _ (by omega)
        have hi := ih (c :: r) (by simp at hl ⊢; omega) (fun x hx => hd x (List.mem_append_left _ hx)) (by simp) (.inl hc')
        rw [Lib.decDigits, dif_neg (by omega), show (10 * dval (c :: r) 0 + (b.toNat - 48)) / 10 = dval (c :: r) 0 by omega, hi, show (10 * dval (c :: r) 0 + (b.toNat - 48)) % 10 = b.toNat - 48 by omega]
        congr 2
        rw [← UInt8.toNat_inj, UInt8.toNat_ofNat']; omega

theorem dec_len : ∀ (k n : Nat), n < 10 ^ (k + 1) → (Lib.decDigits n).length ≤ k + 1
  | 0, n, h => by rw [Lib.decDigits, dif_pos (by simpa using h)]; simp
  | k + 1, n, h => by
    rw [Lib.decDigits]
    split
    · simp
    · have := dec_len k (n / 10) (by rw [Nat.pow_succ] at h; omega)
      simp; omega


end Go.Proofs.YteojabdeehagnaaGreatDoor

/- A law that says how functions of the program and of the specification hang together. -/
set_option linter.unusedVariables false
set_option linter.unusedSimpArgs false
set_option maxRecDepth 100000
namespace Go.Proofs.YteojabdeehagnaaGreatDoor
open Go Go.Am Go.Proofs

theorem n18_dig : ∀ (l : List UInt8) (m : Nat), (∀ b ∈ l, isD b) → dig32 l (m : Int) = (((dval l m : Nat) : Int), true)
  | [], _, _ => rfl
  | b :: r, m, hd => by
    have hb : isD b := hd b (List.mem_cons_self ..)
    unfold isD at hb
    unfold dig32 d32
    rw [if_pos (by simpa using hb)]
    have e1 : 10 * (m : Int) + ((b.toNat : Int) - 48) = ((10 * m + (b.toNat - 48) : Nat) : Int) := by omega
    rw [e1]
    exact n18_dig r _ (fun c hc => hd c (List.mem_cons_of_mem _ hc))

theorem n18_all : ∀ (l : List UInt8) (n : Int), (dig32 l n).2 = true → ∀ b ∈ l, isD b
  | [], n, h, b, hb => by cases hb
  | c :: r, n, h, b, hb => by
    unfold dig32 at h
    split at h
    · rename_i hd
      rcases List.mem_cons.1 hb with rfl | hb
      · unfold d32 at hd; unfold isD; simpa using hd
      · exact n18_all r _ h b hb
    · cases h

theorem n18_zero : ∀ (l : List UInt8) (n : Int), (dig32 l n).2 = false → (dig32 l n).1 = 0
  | [], n, h => by cases h
  | c :: r, n, h => by
    unfold dig32 at h ⊢
    split at h
    · rename_i hd
      rw [if_pos hd]
      exact n18_zero r _ h
    · rename_i hd
      rw [if_neg hd]

theorem n18_cons (b : UInt8) (r : List UInt8) : num32 (b :: r) = if b.toNat = 45 then (if r.length = 0 ∨ 18 < r.length ∨ (r.getD 0 0).toNat = 48 then (0, false) else fin32 1 (dig32 r 0))
    else if 18 < r.length + 1 ∨ (b.toNat = 48 ∧ 0 < r.length) then (0, false) else fin32 0 (dig32 (b :: r) 0) := rfl

theorem dval_lt : ∀ (l : List UInt8) (m : Nat), (∀ b ∈ l, isD b) → dval l m < (m + 1) * 10 ^ l.length
  | [], m, _ => by simp [dval]
  | b :: r, m, hd => by
    have hb : isD b := hd b (List.mem_cons_self ..)
    unfold isD at hb
    have ih := dval_lt r (10 * m + (b.toNat - 48)) (fun c hc => hd c (List.mem_cons_of_mem _ hc))
    show dval r (10 * m + (b.toNat - 48)) < _
    rw [List.length_cons, Nat.pow_succ]
    have h1 : (10 * m + (b.toNat - 48) + 1) * 10 ^ r.length ≤ (10 * (m + 1)) * 10 ^ r.length := Nat.mul_le_mul_right _ (by omega)
    have h2 : (10 * (m + 1)) * 10 ^ r.length = (m + 1) * (10 ^ r.length * 10) := by
      rw [Nat.mul_comm 10 (m + 1), Nat.mul_assoc, Nat.mul_comm 10]
    omega

theorem dval_le : ∀ (l : List UInt8) (m : Nat), m ≤ dval l m
  | [], m => Nat.le_refl _
  | b :: r, m => by
    have := dval_le r (10 * m + (b.toNat - 48))
    show m ≤ dval r (10 * m + (b.toNat - 48))
    omega

/-- Numbers of at most eighteen digits. -/
def N18 (n : Int) : Prop := -1000000000000000000 < n ∧ n < 1000000000000000000

theorem n18_len {n : Nat} : (Lib.decDigits n).length ≤ 18 ↔ n < 1000000000000000000 := by
  constructor
  · intro h
    obtain ⟨d1, d2, _⟩ := dec_facts n
    have := dval_lt (Lib.decDigits n) 0 d1
    rw [d2] at this
    have hp : 10 ^ (Lib.decDigits n).length ≤ 10 ^ 18 := Nat.pow_le_pow_right (by decide) h
    have e : (10 : Nat) ^ 18 = 1000000000000000000 := by decide
    rw [e] at hp
    omega
  · intro h
    exact dec_len 17 n (by omega)

theorem numB_neg {n : Int} (h : n < 0) : numB n = ⟨⟨45 :: Lib.decDigits n.natAbs⟩⟩ := by unfold numB Lib.itoa; rw [if_pos h]
theorem numB_pos {n : Int} (h : ¬ n < 0) : numB n = ⟨⟨Lib.decDigits n.toNat⟩⟩ := by unfold numB Lib.itoa; rw [if_neg h]

theorem dec_head {n : Nat} : ∃ b r, Lib.decDigits n = b :: r ∧ isD b ∧ (b.toNat = 48 → r = []) := by
  obtain ⟨d1, d2, d3, d4⟩ := dec_facts n
  have hz : Lib.decDigits 0 = [48] := by rw [Lib.decDigits, dif_pos (by decide)]; rfl
  cases hd : Lib.decDigits n with
  | nil => rw [hd] at d3; simp at d3
  | cons b r =>
    refine ⟨b, r, rfl, ?_, fun h48 => ?_⟩
    · rw [hd] at d1; exact d1 b (List.mem_cons_self ..)
    · rcases Nat.eq_zero_or_pos n with rfl | hn
      · rw [hz] at hd; cases hd; rfl
      · have := d4 hn
        rw [hd] at this
        exact absurd h48 this

theorem num_s1 {n : Int} (h : N18 n) : g32_0 (numB n) = n ∧ g32_1 (numB n) = true := by
  obtain ⟨h1, h2⟩ := h
  have e : num32 (numB n).data.toList = (n, true) := by
    by_cases hn : n < 0
    · rw [numB_neg hn]
      show num32 (45 :: Lib.decDigits n.natAbs) = _
      obtain ⟨d1, d2, d3, d4⟩ := dec_facts n.natAbs
      have hl := (n18_len (n := n.natAbs)).2 (by omega)
      rw [n18_cons, if_pos (by rfl), if_neg (fun hh => by
        rcases hh with hh | hh | hh
        · omega
        · omega
        · exact d4 (by omega) hh)]
      unfold fin32
      rw [if_pos rfl]
      have := n18_dig (Lib.decDigits n.natAbs) 0 d1
      rw [d2] at this
      change dig32 _ 0 = _ at this
      rw [this]
      simp only [Prod.mk.injEq, and_true]
      omega
    · rw [numB_pos hn]
      show num32 (Lib.decDigits n.toNat) = _
      obtain ⟨d1, d2, d3, d4⟩ := dec_facts n.toNat
      have hl := (n18_len (n := n.toNat)).2 (by omega)
      obtain ⟨b, r, hd, hb, h48⟩ := dec_head (n := n.toNat)
      rw [hd] at d1 d2 d3 d4 hl ⊢
      unfold isD at hb
      rw [n18_cons, if_neg (by omega), if_neg (fun hh => by
        rcases hh with hh | ⟨hh, hr⟩
        · simp at hl; omega
        · rw [h48 hh] at hr; simp at hr)]
      unfold fin32
      rw [if_neg (by decide)]
      have := n18_dig (b :: r) 0 d1
      rw [d2] at this
      change dig32 _ 0 = _ at this
      rw [this]
      simp only [Prod.mk.injEq, and_true]
      omega
  unfold g32_0 g32_1
  rw [e]
  exact ⟨rfl, rfl⟩

theorem num_s2 {x : ByteArray} (h : g32_1 x = true) : ∃ n : Int, N18 n ∧ x = numB n := by
  obtain ⟨⟨p⟩⟩ := x
  unfold g32_1 at h
  change (num32 p).2 = true at h
  cases p with
  | nil => cases h
  | cons b r =>
    rw [n18_cons] at h
    split at h
    · rename_i hb
      have hb' : b = 45 := by rw [← UInt8.toNat_inj]; exact hb
      split at h
      · cases h
      · rename_i hc
        unfold fin32 at h
        rw [if_pos rfl] at h
        have hall := n18_all r 0 h
        cases r with
        | nil => simp at hc
        | cons c q =>
          have hcd : isD c := hall c (List.mem_cons_self ..)
          unfold isD at hcd
          have hc2 : c.toNat ≠ 48 := fun e => hc (.inr (.inr e))
          have hp : 1 ≤ dval (c :: q) 0 := dval_pos q _ (by omega)
          have hcan := dec_canon (c :: q).length (c :: q) rfl hall (by simp) (.inl hc2)
          have hlen : (c :: q).length ≤ 18 := by
            rcases Nat.lt_or_ge 18 (c :: q).length with hh | hh
            · exact absurd (.inr (.inl hh)) hc
            · exact hh
          have hlt := n18_len.1 (by rw [hcan]; exact hlen)
          refine ⟨-(dval (c :: q) 0 : Int), ⟨by omega, by omega⟩, ?_⟩
          rw [numB_neg (by omega), hb', Int.natAbs_neg, Int.natAbs_natCast, hcan]
    · rename_i hb
      split at h
      · cases h
      · rename_i hc
        unfold fin32 at h
        rw [if_neg (by decide)] at h
        have hall := n18_all (b :: r) 0 h
        have hcan := dec_canon (b :: r).length (b :: r) rfl hall (by simp) (by
          by_cases hr : 0 < r.length
          · exact .inl (fun e => hc (.inr ⟨e, hr⟩))
          · exact .inr (by rw [List.length_cons]; omega))
        have hlen : (b :: r).length ≤ 18 := by
          rw [List.length_cons]
          rcases Nat.lt_or_ge 18 (r.length + 1) with hh | hh
          · exact absurd (.inl hh) hc
          · exact hh
        have hlt := n18_len.1 (by rw [hcan]; exact hlen)
        refine ⟨(dval (b :: r) 0 : Int), ⟨by omega, by omega⟩, ?_⟩
        rw [numB_pos (by omega), Int.toNat_natCast, hcan]

theorem num_s3 {x : ByteArray} (h : g32_1 x = false) : g32_0 x = 0 := by
  obtain ⟨⟨p⟩⟩ := x
  unfold g32_1 at h
  unfold g32_0
  change (num32 p).2 = false at h
  show (num32 p).1 = 0
  cases p with
  | nil => rfl
  | cons b r =>
    rw [n18_cons] at h ⊢
    split at h
    · rename_i hb
      rw [if_pos hb]
      split at h
      · rename_i hc; rw [if_pos hc]
      · rename_i hc
        rw [if_neg hc]
        unfold fin32 at h ⊢
        rw [if_pos rfl] at h ⊢
        have := n18_zero r 0 h
        simp only [this]; rfl
    · rename_i hb
      rw [if_neg hb]
      split at h
      · rename_i hc; rw [if_pos hc]
      · rename_i hc
        rw [if_neg hc]
        unfold fin32 at h ⊢
        rw [if_neg (by decide)] at h ⊢
        exact n18_zero (b :: r) 0 h

theorem uint_dval : ∀ (l : List UInt8) (m : Nat), (∀ b ∈ l, isD b) → dval l m < 1000000000000000000 → Lib.parseUintM 18446744073709551615 m l = .ok (dval l m)
  | [], _, _, _ => rfl
  | b :: r, m, hd, h => by
    have hb : isD b := hd b (List.mem_cons_self ..)
    unfold isD at hb
    have hle := dval_le r (10 * m + (b.toNat - 48))
    have h' : dval r (10 * m + (b.toNat - 48)) < 1000000000000000000 := h
    unfold Lib.parseUintM
    rw [if_pos hb, if_neg (by omega), if_neg (by omega), Nat.mul_comm m 10]
    exact uint_dval r _ (fun c hc => hd c (List.mem_cons_of_mem _ hc)) h'

theorem uint_dec {n : Nat} (h : n < 1000000000000000000) : Lib.parseUintB 64 (Lib.decDigits n) = .ok n := by
  obtain ⟨d1, d2, d3, _⟩ := dec_facts n
  unfold Lib.parseUintB
  rw [if_neg (fun e => by rw [e] at d3; simp at d3)]
  have e : (2 : Nat) ^ 64 - 1 = 18446744073709551615 := by decide
  have := uint_dval (Lib.decDigits n) 0 d1 (by rw [d2]; exact h)
  rw [d2] at this
  rw [e]; exact this

theorem parse_dec {n : Int} (h : N18 n) : Lib.parseIntB 64 (numB n).data.toList = .ok n := by
  obtain ⟨h1, h2⟩ := h
  have e63 : (2 : Nat) ^ (64 - 1) = 9223372036854775808 := by decide
  by_cases hn : n < 0
  · rw [numB_neg hn]
    show Lib.parseIntB 64 (45 :: Lib.decDigits n.natAbs) = _
    rw [Lib.parseIntB_minus, uint_dec (by omega), e63]
    unfold Lib.signedC
    simp only
    rw [if_neg (by omega)]
    congr 1
    omega
  · rw [numB_pos hn]
    show Lib.parseIntB 64 (Lib.decDigits n.toNat) = _
    have hu := uint_dec (n := n.toNat) (by omega)
    obtain ⟨b, r, hd, hb, _⟩ := dec_head (n := n.toNat)
    unfold isD at hb
    rw [hd] at hu ⊢
    rw [Lib.parseIntB_plain _ _ _ (by omega) (by omega), hu, e63]
    unfold Lib.signlessC
    simp only
    rw [if_neg (by omega)]
    congr 1
    omega

theorem trim_dec {n : Int} : (g61_0 (numB n) ⟨#[45]⟩).size = (Lib.decDigits n.natAbs).length := by
  unfold g61_0
  show (Lib.trimPrefix (numB n).data.toList [45]).length = _
  unfold Lib.trimPrefix Lib.hasPrefix
  by_cases hn : n < 0
  · rw [numB_neg hn]
    rfl
  · rw [numB_pos hn]
    obtain ⟨b, r, hd, hb, _⟩ := dec_head (n := n.toNat)
    unfold isD at hb
    have hne : (45 : UInt8) ≠ b := fun e => by rw [← e] at hb; exact absurd hb (by decide)
    have e : n.natAbs = n.toNat := by omega
    rw [e, hd]
    have : ([45] : List UInt8).isPrefixOf (b :: r) = false := by simp [List.isPrefixOf, hne]
    show (if ([45] : List UInt8).isPrefixOf (b :: r) = true then _ else (b :: r)).length = _
    rw [this]
    rfl

theorem rd_i1 {n : Int} (h : N18 n) : g50_0 (numB n) = n ∧ g50_1 (numB n) = true := by
  have hl := (n18_len (n := n.natAbs)).2 (by unfold N18 at h; omega)
  have h0 := (dec_facts n.natAbs).2.2.1
  have e : rd50 (numB n) = some n := by
    unfold rd50 long50
    rw [trim_dec, if_neg (by rw [Bool.or_eq_true, decide_eq_true_eq, decide_eq_true_eq]; omega), parse_dec h]
    simp
  unfold g50_0 g50_1
  rw [e]
  exact ⟨rfl, rfl⟩

theorem rd_i2 {x : ByteArray} (h : g50_1 x = true) : ∃ n : Int, N18 n ∧ x = numB n := by
  unfold g50_1 rd50 at h
  split at h
  · cases h
  · rename_i hl
    split at h
    · rename_i v hv
      split at h
      · rename_i he
        unfold long50 at hl
        rw [← he, trim_dec] at hl
        have : (Lib.decDigits v.natAbs).length ≤ 18 := by
          simp at hl; omega
        have := n18_len.1 this
        exact ⟨v, ⟨by omega, by omega⟩, he.symm⟩
      · cases h
    · cases h

theorem rd_i3 {x : ByteArray} (h : g50_1 x = false) : g50_0 x = 0 := by
  unfold g50_1 at h
  unfold g50_0
  cases hr : rd50 x with
  | none => rfl
  | some v => rw [hr] at h; cases h

theorem read_dec (x : ByteArray) : g32_0 x = g50_0 x ∧ g32_1 x = g50_1 x := by
  cases hs : g32_1 x with
  | true =>
    obtain ⟨n, hn, rfl⟩ := num_s2 hs
    obtain ⟨i0, i1⟩ := rd_i1 hn
    rw [i0, i1, (num_s1 hn).1]
    exact ⟨rfl, rfl⟩
  | false =>
    cases hi : g50_1 x with
    | true =>
      obtain ⟨n, hn, rfl⟩ := rd_i2 hi
      rw [(num_s1 hn).2] at hs
      cases hs
    | false => exact ⟨(num_s3 hs).trans (rd_i3 hi).symm, rfl⟩

/-- What is read of any text is the number of a numeral; it is that text just if it is taken. -/
theorem rd_any (x : ByteArray) : ∃ n : Int, N18 n ∧ g50_0 x = n ∧ (g50_1 x = true ↔ x = numB n) := by
  cases hi : g50_1 x with
  | true =>
    obtain ⟨n, hn, rfl⟩ := rd_i2 hi
    exact ⟨n, hn, (rd_i1 hn).1, ⟨fun _ => rfl, fun _ => rfl⟩⟩
  | false =>
    have h0 : N18 0 := ⟨by omega, by omega⟩
    refine ⟨0, h0, rd_i3 hi, ⟨(fun h => by cases h), fun h => ?_⟩⟩
    rw [h, (rd_i1 h0).2] at hi
    cases hi

theorem num_free {n : Int} {k : UInt8} (h1 : ¬ isD k) (h2 : k ≠ 45) : k ∉ (numB n).data.toList := by
  intro hm
  by_cases hn : n < 0
  · rw [numB_neg hn] at hm
    rcases List.mem_cons.1 hm with h | h
    · exact h2 h
    · exact h1 ((dec_facts _).1 _ h)
  · rw [numB_pos hn] at hm
    exact h1 ((dec_facts _).1 _ hm)

end Go.Proofs.YteojabdeehagnaaGreatDoor

/- A law that says how functions of the program and of the specification hang together. -/
set_option linter.unusedVariables false
set_option linter.unusedSimpArgs false
set_option maxRecDepth 100000
namespace Go.Proofs.YteojabdeehagnaaGreatDoor
open Go Go.Am Go.Proofs

/-- Texts that are split at a blank. -/
theorem app_list (a b : ByteArray) : (a ++ b).data.toList = a.data.toList ++ b.data.toList := by
  rw [ByteArray.data_append, Array.toList_append]

theorem bytes_ext {a b : ByteArray} (h : a.data.toList = b.data.toList) : a = b := by
  obtain ⟨⟨l⟩⟩ := a
  obtain ⟨⟨m⟩⟩ := b
  simp at h
  rw [h]

theorem split_two {x : List UInt8} {k : UInt8} {a b : List UInt8} (h : splitC k x = [a, b]) : x = a ++ k :: b := by
  have := splitC_join k x
  rw [h] at this
  rw [← this]
  simp [List.intercalate]

theorem split_three {x : List UInt8} {k : UInt8} {a b c : List UInt8} (h : splitC k x = [a, b, c]) : x = a ++ k :: (b ++ k :: c) := by
  have := splitC_join k x
  rw [h] at this
  rw [← this]
  simp [List.intercalate]

theorem split_of_two {k : UInt8} {a b : List UInt8} (ha : k ∉ a) (hb : k ∉ b) : splitC k (a ++ k :: b) = [a, b] := by
  rw [splitC_hit k _ ha, splitC_free k hb]

theorem split_of_three {k : UInt8} {a b c : List UInt8} (ha : k ∉ a) (hb : k ∉ b) (hc : k ∉ c) : splitC k (a ++ k :: (b ++ k :: c)) = [a, b, c] := by
  rw [splitC_hit k _ ha, splitC_hit k _ hb, splitC_free k hc]

theorem list_three {α : Type} : ∀ {l : List α}, l.length = 3 → ∃ a b c, l = [a, b, c]
  | [a, b, c], _ => ⟨a, b, c, rfl⟩
theorem list_two {α : Type} : ∀ {l : List α}, l.length = 2 → ∃ a b, l = [a, b]
  | [a, b], _ => ⟨a, b, rfl⟩

/-- Two heads free of k. -/
theorem cut_eq {k : UInt8} : ∀ {p q b c : List UInt8}, k ∉ p → k ∉ b → p ++ k :: q = b ++ k :: c → p = b ∧ q = c
  | [], q, [], c, _, _, h => by simpa using h
  | [], q, y :: b, c, _, hb, h => by
    simp only [List.nil_append, List.cons_append, List.cons.injEq] at h
    exact absurd (by rw [h.1]; exact List.mem_cons_self ..) hb
  | x :: p, q, [], c, hp, _, h => by
    simp only [List.nil_append, List.cons_append, List.cons.injEq] at h
    exact absurd (by rw [h.1]; exact List.mem_cons_self ..) hp
  | x :: p, q, y :: b, c, hp, hb, h => by
    simp only [List.cons_append, List.cons.injEq] at h
    obtain ⟨e1, e2⟩ := cut_eq (fun hm => hp (List.mem_cons_of_mem _ hm)) (fun hm => hb (List.mem_cons_of_mem _ hm)) h.2
    exact ⟨by rw [h.1, e1], e2⟩

end Go.Proofs.YteojabdeehagnaaGreatDoor

/- A law that says how functions of the program and of the specification hang together. -/
set_option linter.unusedVariables false
set_option linter.unusedSimpArgs false
set_option maxRecDepth 100000
namespace Go.Proofs.YteojabdeehagnaaGreatDoor
open Go Go.Am Go.Proofs

/-- Texts of lists. -/
theorem in_eqL (x a b : Int) : g33_0 x a b = g51_0 x a b := rfl

def V12 (n : Int) : Prop := -1000000000000 ≤ n ∧ n ≤ 1000000000000
theorem v18 {n : Int} (h : V12 n) : N18 n := by unfold V12 at h; exact ⟨by omega, by omega⟩
theorem in12 {n : Int} : g33_0 n (-1000000000000) 1000000000000 = true ↔ V12 n := by
  unfold g33_0 V12
  by_cases c1 : n ≥ -1000000000000
  · have c1' : -1000000000000 ≤ n := c1
    by_cases c2 : n ≤ 1000000000000 <;> simp [c1, c2]
  · have c1' : ¬ -1000000000000 ≤ n := c1
    simp [c1, c1']
theorem val12 {n : Int} : g56_0 n = true ↔ V12 n := in12

theorem list_bad (l : List Int) : g54c55_0 l = l.any fun n => !g56_0 n := any63c55 l

/-- The text of a list that is not empty. -/
theorem list_text {l : List Int} (h0 : l ≠ []) (h1 : l.length ≤ 64) (h2 : ∀ n ∈ l, V12 n) : g43_0 l = g58_0 (l.map numB) (ByteArray.mk #[44]) := by
  have e : (l.map g57_0) = l.map numB := rfl
  unfold g43_0
  rw [if_neg (by omega), e, if_neg, if_neg (fun h => h0 (List.eq_nil_of_length_eq_zero h))]
  rw [list_bad]
  intro h
  obtain ⟨n, hn, hb⟩ := List.any_eq_true.1 h
  rw [val12.2 (h2 n hn)] at hb
  cases hb

theorem list_none {l : List Int} (h : ¬ (l.length ≤ 64 ∧ ∀ n ∈ l, V12 n)) : g43_0 l = ByteArray.mk #[] := by
  unfold g43_0
  by_cases h1 : l.length > 64
  · rw [if_pos h1]
  · rw [if_neg h1]
    have h2 : ¬ ∀ n ∈ l, V12 n := fun hh => h ⟨by omega, hh⟩
    rw [if_pos]
    rw [list_bad]
    have : ∃ n, n ∈ l ∧ ¬ V12 n := by
      apply Classical.byContradiction
      intro hc
      exact h2 fun n hn => Classical.byContradiction fun hv => hc ⟨n, hn, hv⟩
    obtain ⟨n, hn, hv⟩ := this
    refine List.any_eq_true.2 ⟨n, hn, ?_⟩
    rw [Bool.not_eq_true', Bool.eq_false_iff]
    exact fun hh => hv (val12.1 hh)

theorem join_two (p q : List UInt8) (r : List (List UInt8)) (k : UInt8) : [k].intercalate (p :: q :: r) = p ++ k :: [k].intercalate (q :: r) := by
  simp [List.intercalate]

theorem split_join (k : UInt8) : ∀ (ps : List (List UInt8)), ps ≠ [] → (∀ p ∈ ps, k ∉ p) → splitC k ([k].intercalate ps) = ps
  | [], h, _ => absurd rfl h
  | [p], _, h => by
    have : [k].intercalate [p] = p := by simp [List.intercalate]
    rw [this, splitC_free k (h p (List.mem_cons_self ..))]
  | p :: q :: r, _, h => by
    rw [join_two, splitC_hit k _ (h p (List.mem_cons_self ..)), split_join k (q :: r) (by simp) fun x hx => h x (List.mem_cons_of_mem _ hx)]

theorem join_list (l : List ByteArray) : (g58_0 l (ByteArray.mk #[44])).data.toList = [44].intercalate (l.map fun x => x.data.toList) := rfl

theorem split44 (x : ByteArray) : g49_0 x (ByteArray.mk #[44]) = bss (splitC 44 x.data.toList) := splitB_one 44 x

theorem bss_ne (x : ByteArray) : bss (splitC 44 x.data.toList) ≠ [] := by
  intro h
  unfold bss at h
  exact splitC_ne 44 _ (List.map_eq_nil_iff.1 h)

theorem bss_lists (ls : List (List UInt8)) : (bss ls).map (fun x => x.data.toList) = ls := by
  unfold bss
  rw [List.map_map]
  conv => rhs; rw [← List.map_id ls]
  rfl

/-- A list is read just if its words are numerals of its numbers. -/
theorem read_iff (x : ByteArray) : g43_0 (nums41 x) = x ↔ ((ws41 x).length ≤ 64 ∧ ∀ w ∈ ws41 x, g50_1 w = true ∧ V12 (g50_0 w)) := by
  have ew : ws41 x = bss (splitC 44 x.data.toList) := split44 x
  have hlen : (nums41 x).length = (ws41 x).length := by unfold nums41; rw [List.length_map]
  have hne : nums41 x ≠ [] := fun h => bss_ne x (by
    rw [← ew]
    refine List.eq_nil_of_length_eq_zero ?_
    rw [← hlen, h]; rfl)
  constructor
  · intro ht
    have hok : (nums41 x).length ≤ 64 ∧ ∀ n ∈ nums41 x, V12 n := by
      apply Classical.byContradiction
      intro hc
      rw [list_none hc] at ht
      subst ht
      apply hc
      have e1 : ws41 (ByteArray.mk #[]) = [ByteArray.mk #[]] := by rw [ew]; rfl
      have hf : g50_1 (ByteArray.mk #[]) = false := by
        rw [Bool.eq_false_iff]
        intro h
        obtain ⟨n, _, hn⟩ := rd_i2 h
        have := congrArg ByteArray.size hn
        by_cases hs : n < 0
        · rw [numB_neg hs] at this; exact absurd this (by show ¬ (0 : Nat) = (45 :: Lib.decDigits n.natAbs).length; simp)
        · rw [numB_pos hs] at this
          have hp := (dec_facts n.toNat).2.2.1
          have : 0 = (Lib.decDigits n.toNat).length := this
          omega
      unfold nums41
      rw [e1]
      simp only [List.map_cons, List.map_nil, List.length_singleton, List.mem_singleton, forall_eq, rd_i3 hf]
      exact ⟨by omega, by unfold V12; omega⟩
    rw [list_text hne hok.1 hok.2] at ht
    have hd := congrArg (fun b : ByteArray => splitC 44 b.data.toList) ht
    simp only [join_list] at hd
    rw [split_join 44 _ (by simpa using hne) (fun p hp => by
      obtain ⟨y, hy, rfl⟩ := List.mem_map.1 hp
      obtain ⟨n, hn, rfl⟩ := List.mem_map.1 hy
      exact num_free (by unfold isD; decide) (by decide))] at hd
    have hw : ws41 x = (nums41 x).map numB := by
      rw [ew, ← hd]
      unfold bss
      rw [List.map_map]
      conv => rhs; rw [← List.map_id ((nums41 x).map numB)]
      rfl
    refine ⟨by rw [← hlen]; exact hok.1, ?_⟩
    have key : ∀ w ∈ ws41 x, w = numB (g50_0 w) := by
      unfold nums41 at hw
      rw [List.map_map] at hw
      intro w hw'
      obtain ⟨i, hi⟩ := List.getElem?_of_mem hw'
      have h1 : (ws41 x)[i]? = some w := hi
      rw [hw, List.getElem?_map, hi] at h1
      simp only [Option.map_some, Option.some.injEq] at h1
      exact h1.symm
    intro w hw'
    obtain ⟨n, hn, e0, e1⟩ := rd_any w
    refine ⟨e1.2 (by rw [← e0]; exact key w hw'), ?_⟩
    exact hok.2 _ (List.mem_map.2 ⟨w, hw', rfl⟩)
  · rintro ⟨h1, h2⟩
    have hv : ∀ n ∈ nums41 x, V12 n := fun n hn => by
      obtain ⟨w, hw, rfl⟩ := List.mem_map.1 hn
      exact (h2 w hw).2
    rw [list_text hne (by rw [hlen]; exact h1) hv]
    refine bytes_ext ?_
    rw [join_list]
    have hm : (nums41 x).map numB = ws41 x := by
      unfold nums41
      rw [List.map_map]
      conv => rhs; rw [← List.map_id (ws41 x)]
      refine List.map_congr_left fun w hw => ?_
      obtain ⟨n, hn, e0, e1⟩ := rd_any w
      show numB (g50_0 w) = w
      rw [e0]; exact (e1.1 (h2 w hw).1).symm
    rw [hm, ew, bss_lists, splitC_join]

open Classical in
theorem rl_spec : ∀ (ws : List ByteArray), rl25 ws = if (∀ w ∈ ws, g50_1 w = true ∧ V12 (g50_0 w)) then some (ws.map g50_0) else none
  | [] => by simp [rl25]
  | w :: r => by
    obtain ⟨e0, e1⟩ := read_dec w
    rw [rl25, rl_spec r]
    have hk : ok25 w = true ↔ (g50_1 w = true ∧ V12 (g50_0 w)) := by
      unfold ok25
      rw [e0, e1, Bool.and_eq_true, in12]
    by_cases h : ok25 w = true
    · rw [if_pos h]
      by_cases hr : ∀ w ∈ r, g50_1 w = true ∧ V12 (g50_0 w)
      · rw [if_pos hr, if_pos (fun y hy => by
          rcases List.mem_cons.1 hy with rfl | hy
          · exact hk.1 h
          · exact hr y hy)]
        simp [e0]
      · rw [if_neg hr, if_neg (fun hh => hr fun y hy => hh y (List.mem_cons_of_mem _ hy))]
    · rw [if_neg h, if_neg (fun hh => h (hk.2 (hh w (List.mem_cons_self ..))))]

theorem read_list (x : ByteArray) : g25_0 x = g41_0 x ∧ g25_1 x = g41_1 x := by
  have e : all25 x = all41 x := by
    unfold all25 all41
    by_cases h0 : x = ByteArray.mk #[45]
    · rw [if_pos h0, if_pos h0]
    · rw [if_neg h0, if_neg h0]
      have ew : ws25 x = ws41 x := (split44 x).symm
      rw [ew, rl_spec]
      have hi := read_iff x
      by_cases h1 : (ws41 x).length > 64
      · rw [if_pos h1, if_neg (fun h => by have := (hi.1 h).1; omega)]
      · rw [if_neg h1]
        by_cases h2 : ∀ w ∈ ws41 x, g50_1 w = true ∧ V12 (g50_0 w)
        · rw [if_pos h2, if_pos (hi.2 ⟨by omega, h2⟩)]
          rfl
        · rw [if_neg h2, if_neg (fun h => h2 (hi.1 h).2)]
  unfold g25_0 g41_0 g25_1 g41_1
  rw [e]
  exact ⟨rfl, rfl⟩

/-- What is read as a list that is not empty bears no other byte than those of numerals and commas. -/
theorem list_free {x : ByteArray} {k : UInt8} (h1 : ¬ isD k) (h2 : k ≠ 45) (h3 : k ≠ 44) (h : g41_0 x ≠ []) : k ∉ x.data.toList := by
  unfold g41_0 all41 at h
  split at h
  · exact absurd rfl h
  · split at h
    · rename_i ht
      obtain ⟨_, h5⟩ := (read_iff x).1 ht
      have ew : ws41 x = bss (splitC 44 x.data.toList) := split44 x
      intro hm
      rw [← splitC_join 44 x.data.toList] at hm
      have key : ∀ ps : List (List UInt8), (∀ p ∈ ps, k ∉ p) → k ∉ [(44 : UInt8)].intercalate ps := by
        intro ps
        induction ps with
        | nil => intro _; simp [List.intercalate]
        | cons p r ih =>
          intro hp
          cases r with
          | nil =>
            have : [(44 : UInt8)].intercalate [p] = p := by simp [List.intercalate]
            rw [this]; exact hp p (List.mem_cons_self ..)
          | cons q r =>
            rw [join_two]
            intro hh
            rcases List.mem_append.1 hh with hh | hh
            · exact hp p (List.mem_cons_self ..) hh
            · rcases List.mem_cons.1 hh with hh | hh
              · exact h3 hh
              · exact ih (fun y hy => hp y (List.mem_cons_of_mem _ hy)) hh
      refine key _ (fun p hp => ?_) hm
      have hmem : (⟨p.toArray⟩ : ByteArray) ∈ ws41 x := by
        rw [ew]; exact List.mem_map.2 ⟨p, hp, rfl⟩
      obtain ⟨n, _, e0, e1⟩ := rd_any ⟨p.toArray⟩
      have he := e1.1 (h5 _ hmem).1
      have : p = (numB n).data.toList := by
        have := congrArg (fun b : ByteArray => b.data.toList) he
        simpa using this
      rw [this]
      exact num_free h1 h2
    · exact absurd rfl h

/-- The text of a list that was read, but for the empty one. -/
theorem list_back {x : ByteArray} (h : g41_0 x ≠ []) : g41_1 x = true ∧ g43_0 (g41_0 x) = x := by
  unfold g41_0 g41_1 at *
  cases ha : all41 x with
  | none => rw [ha] at h; exact absurd rfl h
  | some l =>
    refine ⟨rfl, ?_⟩
    rw [ha] at h
    unfold all41 at ha
    split at ha
    · cases ha; exact absurd rfl h
    · split at ha
      · rename_i ht; cases ha; exact ht
      · cases ha

end Go.Proofs.YteojabdeehagnaaGreatDoor

/- A law that says how functions of the program and of the specification hang together. -/
set_option linter.unusedVariables false
set_option linter.unusedSimpArgs false
set_option maxRecDepth 100000
namespace Go.Proofs.YteojabdeehagnaaGreatDoor
open Go Go.Am Go.Proofs
theorem name_eq (s : ByteArray) : g36_0 s = g31_0 s := by
  have hs : ∀ c, g44_0 c = (decide (97 ≤ c) && decide (c ≤ 122)) := fun c => by
    unfold g44_0
    by_cases h1 : (97 : Int) ≤ c <;> simp [h1]
  have hd : ∀ c, g45_0 c = (decide (48 ≤ c) && decide (c ≤ 57)) := fun c => by
    unfold g45_0
    by_cases h1 : (48 : Int) ≤ c <;> simp [h1]
  unfold g36_0 g31_0
  have hl := bytesOf_length s
  by_cases h1 : 1 ≤ s.size
  · cases hb : bytesOf s with
    | nil => rw [hb] at hl; simp at hl; omega
    | cons c r =>
      have hr : allI ok36 1 r = r.all fun b => g44_0 b || g45_0 b := by
        rw [← allI_plain (fun b => g44_0 b || g45_0 b) r 1]
        refine allI_congr r 1 fun j x hj => ?_
        have : (j == 0) = false := by simp; omega
        simp only [ok36, this, hs, hd, Bool.not_false, Bool.true_and]
      have h0 : ok36 0 c = g44_0 c := by simp [ok36, hs]
      simp only [allI, hr, h0, List.all_cons, List.getD_cons_zero]
      cases g44_0 c <;> simp
  · simp [h1]


end Go.Proofs.YteojabdeehagnaaGreatDoor

/- A law that says how functions of the program and of the specification hang together. -/
set_option linter.unusedVariables false
set_option linter.unusedSimpArgs false
set_option maxRecDepth 100000
namespace Go.Proofs.YteojabdeehagnaaGreatDoor
open Go Go.Am Go.Proofs

theorem check_eqR (x : (ByteArray × Int × Int × Int × Int × Unit)) : g42_0 x = g26_0 x := by
  unfold g42_0 g26_0
  rw [name_eq]
  rfl

theorem list_four {α : Type} : ∀ {l : List α}, l.length = 4 → ∃ a b c d, l = [a, b, c, d]
  | [a, b, c, d], _ => ⟨a, b, c, d, rfl⟩

theorem list_four_back {x : ByteArray} {a b c d : Int} (h : g41_0 x = [a, b, c, d]) : g41_1 x = true ∧ g43_0 [a, b, c, d] = x ∧ x.data.toList ≠ [] := by
  obtain ⟨h1, h2⟩ := list_back (x := x) (by rw [h]; simp)
  rw [h] at h2
  refine ⟨h1, h2, ?_⟩
  unfold g41_0 all41 at h
  split at h
  · cases h
  · split at h
    · rename_i ht
      have hn : nums41 x = [a, b, c, d] := h
      obtain ⟨h5, h6⟩ := (read_iff x).1 ht
      have hv : ∀ n ∈ nums41 x, V12 n := fun n hn => by
        obtain ⟨w, hw, rfl⟩ := List.mem_map.1 hn
        exact (h6 w hw).2
      rw [hn] at hv
      rw [list_text (by simp) (by simp) hv] at h2
      rw [← h2, join_list]
      simp [List.intercalate]
    · cases h

theorem ct_text {s : ByteArray} {a b c d : Int} (h : g42_0 (s, a, b, c, d, ()) = true) :
    (g30_0 (s, a, b, c, d, ())).data.toList = s.data.toList ++ 32 :: (g43_0 [a, b, c, d]).data.toList := by
  unfold g30_0
  rw [if_neg (by rw [h]; simp)]
  simp only [app_list, List.append_assoc]
  rfl

theorem ifT5 {c : Prop} [Decidable c] {Q : Prop} (h : ¬ c → Q) : if c then True else Q := by
  by_cases hc : c
  · rw [if_pos hc]; trivial
  · rw [if_neg hc]; exact h hc

theorem read_check (x : ByteArray) (hx : x.size ≤ 1048576) : P15 x ∧ P18 x ∧ g18_0 x = g15_0 x ∧ g18_1 x = g15_1 x := by
  have hss : g24_0 x 32 = bss (splitC 32 x.data.toList) := rfl
  have hpp : P24 x 32 := ⟨by omega, by omega, by omega⟩
  have hpc : P40 x (ByteArray.mk #[32]) := (show x.size < 4294967281 from by omega)
  have hsz : x.data.toList.length = x.size := rfl
  have rej : ∀ (D R : ByteArray), g40_0 x (ByteArray.mk #[32]) = D → g40_1 x (ByteArray.mk #[32]) = R → R.size ≤ 1048576 → (splitC 32 x.data.toList).length ≠ 2 → (g41_0 R).length ≠ 4 →
      P15 x ∧ P18 x ∧ g18_0 x = g15_0 x ∧ g18_1 x = g15_1 x := fun D R hD hR zR hl hr => by
    unfold P15 P18 g18_0 g18_1 g15_0 g15_1 g29_0 g29_1 g29_2 P29
    rw [hss, hD, hR]
    have hl' : (((bss (splitC 32 x.data.toList)).length : Int) != 2) = true := by
      have : ((bss (splitC 32 x.data.toList)).length : Int) ≠ 2 := by unfold bss; rw [List.length_map]; omega
      simpa using this
    have hr' : (((g41_0 R).length : Int) == 4) = false := by
      rw [Bool.eq_false_iff, ne_eq, beq_iff_eq]; omega
    have pR : P41 R := zR
    simp only [hl', hr', if_true, Bool.not_false, true_and, and_true]
    exact ⟨hpp, hpc, pR⟩
  rcases split_at 32 x.data.toList with hn | ⟨p, r, hj, hp⟩
  · have hc : Lib.cut x.data.toList (ByteArray.mk #[32]).data.toList = (x.data.toList, [], false) := cut_none 32 hn
    refine rej x (ByteArray.mk #[]) ?_ ?_ (Nat.zero_le _) ?_ ?_
    · unfold g40_0; rw [hc]
    · unfold g40_1; rw [hc]
    · rw [splitC_free 32 hn]; simp
    · intro h2
      obtain ⟨a, b, c, d, e⟩ := list_four h2
      exact (list_four_back e).2.2 rfl
  · have hc : Lib.cut x.data.toList (ByteArray.mk #[32]).data.toList = (p, r, true) := by rw [hj]; exact cut_hit 32 r hp
    have c0 : g40_0 x (ByteArray.mk #[32]) = ⟨⟨p⟩⟩ := by unfold g40_0; rw [hc]
    have c1 : g40_1 x (ByteArray.mk #[32]) = ⟨⟨r⟩⟩ := by unfold g40_1; rw [hc]
    have hlen : p.length + (r.length + 1) = x.size := by rw [← hsz, hj]; simp
    have zp : (⟨⟨p⟩⟩ : ByteArray).size = p.length := rfl
    have zr : (⟨⟨r⟩⟩ : ByteArray).size = r.length := rfl
    by_cases hr : (32 : UInt8) ∈ r
    · refine rej _ _ c0 c1 (by omega) ?_ ?_
      · rw [hj, splitC_hit 32 r hp, List.length_cons, splitC_length]
        have := List.count_pos_iff.2 hr
        omega
      · intro h2
        refine list_free (x := ⟨⟨r⟩⟩) (k := 32) (by unfold isD; decide) (by decide) (by decide) (fun e => ?_) hr
        rw [e] at h2; simp at h2
    · have hs2 : splitC 32 x.data.toList = [p, r] := by rw [hj]; exact split_of_two hp hr
      unfold P15 P18 g18_0 g18_1 g15_0 g15_1 g29_0 g29_1 g29_2 P29
      rw [hss, hs2, c0, c1]
      have e0 : bss [p, r] = [⟨⟨p⟩⟩, ⟨⟨r⟩⟩] := rfl
      rw [e0]
      have n0 : ((([(⟨⟨p⟩⟩ : ByteArray), ⟨⟨r⟩⟩].length : Nat) : Int) != 2) = false := rfl
      have d0 : List.getD [(⟨⟨p⟩⟩ : ByteArray), ⟨⟨r⟩⟩] 0 ByteArray.empty = ⟨⟨p⟩⟩ := rfl
      have d1 : List.getD [(⟨⟨p⟩⟩ : ByteArray), ⟨⟨r⟩⟩] 1 ByteArray.empty = ⟨⟨r⟩⟩ := rfl
      have l0 : (0 : Int) < (([(⟨⟨p⟩⟩ : ByteArray), ⟨⟨r⟩⟩].length : Nat) : Int) := by show (0 : Int) < 2; decide
      have l1 : (1 : Int) < (([(⟨⟨p⟩⟩ : ByteArray), ⟨⟨r⟩⟩].length : Nat) : Int) := by show (1 : Int) < 2; decide
      obtain ⟨q0, q1⟩ := read_list ⟨⟨r⟩⟩
      have pR : P41 ⟨⟨r⟩⟩ := (show r.length ≤ 1048576 from by omega)
      have pS : P25 ⟨⟨r⟩⟩ := (show r.length < 4294967281 from by omega)
      simp only [n0, d0, d1, l0, l1, q0, q1, Bool.false_eq_true, if_false, true_and, and_true]
      by_cases h2 : (g41_0 ⟨⟨r⟩⟩).length = 4
      · obtain ⟨a, b, c, d, e⟩ := list_four h2
        obtain ⟨t1, t2, _⟩ := list_four_back e
        rw [e, t1]
        have n2 : ((([a, b, c, d].length : Nat) : Int) != 4) = false := rfl
        have n3 : ((([a, b, c, d].length : Nat) : Int) == 4) = true := rfl
        have g0 : List.getD [a, b, c, d] 0 0 = a := rfl
        have g1 : List.getD [a, b, c, d] 1 0 = b := rfl
        have g2 : List.getD [a, b, c, d] 2 0 = c := rfl
        have g3 : List.getD [a, b, c, d] 3 0 = d := rfl
        have m0 : (0 : Int) < (([a, b, c, d].length : Nat) : Int) := by show (0 : Int) < 4; decide
        have m1 : (1 : Int) < (([a, b, c, d].length : Nat) : Int) := by show (1 : Int) < 4; decide
        have m2 : (2 : Int) < (([a, b, c, d].length : Nat) : Int) := by show (2 : Int) < 4; decide
        have m3 : (3 : Int) < (([a, b, c, d].length : Nat) : Int) := by show (3 : Int) < 4; decide
        have hP : P30 (⟨⟨p⟩⟩, a, b, c, d, ()) := by
          unfold P30
          refine ifT5 fun _ => ?_
          have e1 : (ByteArray.mk #[32]).size = 1 := rfl
          simp only [t2, ByteArray.size_append, e1, zr, zp]
          exact ⟨by omega, by omega, trivial⟩
        simp only [n2, n3, g0, g1, g2, g3, m0, m1, m2, m3, Bool.not_true, Bool.false_eq_true, if_false, true_and, and_true, ← check_eqR]
        refine ⟨⟨hpp, pS⟩, ⟨⟨hpc, pR⟩, hP⟩, ?_⟩
        cases hv : g42_0 (⟨⟨p⟩⟩, a, b, c, d, ()) with
        | true =>
          have ht : g30_0 (⟨⟨p⟩⟩, a, b, c, d, ()) = x := by
            refine bytes_ext ?_
            rw [ct_text hv, t2, hj]
          rw [ht]
          simp
        | false =>
          have ht : g30_0 (⟨⟨p⟩⟩, a, b, c, d, ()) = ByteArray.mk #[] := by
            unfold g30_0
            rw [hv]; rfl
          have hne : (ByteArray.toList (ByteArray.mk #[]) == ByteArray.toList x) = false := by
            rw [Bool.eq_false_iff]
            intro hh
            have := (bytes_eq _ _).1 hh
            rw [← this] at hj
            have := congrArg List.length hj
            simp at this
          rw [ht, hne]
          simp
      · have n2 : (((g41_0 ⟨⟨r⟩⟩).length : Int) != 4) = true := by
          have : ((g41_0 ⟨⟨r⟩⟩).length : Int) ≠ 4 := by omega
          simpa using this
        have n3 : (((g41_0 ⟨⟨r⟩⟩).length : Int) == 4) = false := by
          rw [Bool.eq_false_iff, ne_eq, beq_iff_eq]; omega
        simp only [n2, n3, Bool.not_false, if_true, and_true]
        refine ⟨⟨hpp, pS, by split <;> trivial⟩, ⟨hpc, pR⟩, ?_, ?_⟩
        · split <;> rfl
        · split <;> rfl

end Go.Proofs.YteojabdeehagnaaGreatDoor

/- A law that says how functions of the program and of the specification hang together. -/
set_option linter.unusedVariables false
set_option linter.unusedSimpArgs false
set_option maxRecDepth 100000
namespace Go.Proofs.YteojabdeehagnaaGreatDoor
open Go Go.Am Go.Proofs

theorem index_one (c : UInt8) : ∀ s : List UInt8, Lib.index s [c] = Lib.indexByte s c
  | [] => rfl
  | b :: l => by
    have e : (List.isPrefixOf [c] (b :: l)) = (b == c) := by
      simp only [List.isPrefixOf, Bool.and_true]
      exact Bool.beq_comm
    rw [Lib.index, Lib.indexByte, index_one c l, e]

theorem contains_one (s : List UInt8) (c : UInt8) : Lib.contains s [c] = s.contains c := by
  rw [Lib.contains_iff_indexByte, Lib.contains, index_one]

theorem contains_nl (s : ByteArray) : (!g37_0 s (ByteArray.mk #[10])) = (bytesOf s).all fun b => !(b == 10) := by
  unfold g37_0
  rw [show (ByteArray.mk #[10]).data.toList = [10] from rfl, contains_one]
  show (!s.data.toList.contains 10) = ((s.data.toList.map fun b => (b.toNat : Int)).all fun b => !(b == 10))
  induction s.data.toList with
  | nil => rfl
  | cons c r ih =>
    rw [List.contains_cons, Bool.not_or, ih, List.map_cons, List.all_cons]
    congr 2
    by_cases h : c = 10
    · subst h; rfl
    · have h1 : ((10 : UInt8) == c) = false := by simp; exact fun e => h e.symm
      have h2 : ((c.toNat : Int) == 10) = false := by
        rw [beq_eq_false_iff_ne]
        intro e
        exact h (UInt8.toNat_inj.1 (by show c.toNat = 10; omega))
      rw [h1, h2]

theorem block_eq (x : ByteArray × ByteArray × ByteArray × Unit) : g27_0 x = g22_0 x := by
  obtain ⟨a, b, t, u⟩ := x
  unfold g27_0 g22_0
  simp only [name_eq, ← contains_nl]
  have hc : decide ((t.size : Int) ≤ 400) = decide (t.size ≤ 400) := by
    congr 1; exact propext ⟨fun h => by omega, fun h => by omega⟩
  rw [hc]
  cases g31_0 a <;> cases g31_0 b <;> cases decide (t.size ≤ 400) <;> cases g37_0 t (ByteArray.mk #[10]) <;> rfl

end Go.Proofs.YteojabdeehagnaaGreatDoor

/- A law that says how functions of the program and of the specification hang together. -/
set_option linter.unusedVariables false
set_option linter.unusedSimpArgs false
set_option maxRecDepth 100000
namespace Go.Proofs.YteojabdeehagnaaGreatDoor
open Go Go.Am Go.Proofs

theorem nan (s : ByteArray) : g47_0 s = false := by simp [g47_0]

theorem cmp_str (a b : ByteArray) : g39_0 a b = if Op.bytesLess (ByteArray.toList a) (ByteArray.toList b) = true then -1 else if (ByteArray.toList a == ByteArray.toList b) = true then 0 else 1 := by
  unfold g39_0
  simp only [nan, Bool.false_eq_true, if_false]
  cases Op.bytesLess (ByteArray.toList a) (ByteArray.toList b) <;> cases (ByteArray.toList a == ByteArray.toList b) <;> rfl

theorem before_cmp (a b : ByteArray × ByteArray × ByteArray × Unit) : (!decide (g28_0 a b ≥ 0)) = g23_0 a b := by
  unfold g28_0 g23_0
  simp only [g38_0, cmp_str]
  cases Op.bytesLess (ByteArray.toList a.1) (ByteArray.toList b.1) <;> cases (ByteArray.toList a.1 == ByteArray.toList b.1) <;> cases Op.bytesLess (ByteArray.toList a.2.1) (ByteArray.toList b.2.1) <;> cases (ByteArray.toList a.2.1 == ByteArray.toList b.2.1) <;> decide


end Go.Proofs.YteojabdeehagnaaGreatDoor

/- A law that says how functions of the program and of the specification hang together. -/
set_option linter.unusedVariables false
set_option linter.unusedSimpArgs false
set_option maxRecDepth 100000
namespace Go.Proofs.YteojabdeehagnaaGreatDoor
open Go Go.Am Go.Proofs

theorem blocks_eq (x : List (ByteArray × ByteArray × ByteArray × Unit)) : g17_0 x = g14_0 x := by
  unfold g17_0 g14_0
  congr 1
  refine allI_congr x 0 fun j y _ => ?_
  unfold ok17 ok14
  rw [block_eq, before_cmp]

end Go.Proofs.YteojabdeehagnaaGreatDoor

/- A law that says how functions of the program and of the specification hang together. -/
set_option linter.unusedVariables false
set_option linter.unusedSimpArgs false
set_option maxRecDepth 100000
namespace Go.Proofs.YteojabdeehagnaaGreatDoor
open Go Go.Am Go.Proofs

theorem sz_memb : ∀ (xs : List (ByteArray × ByteArray × ByteArray × Unit)) (l : Int), 0 ≤ l → InR .i64 l → (∀ x ∈ xs, Wf (.cons .str (.cons .str (.cons .str .unit))) x) → ¬ szL4 xs l < 0 → ∀ x ∈ xs, (x.1.size : Int) + x.2.1.size + x.2.2.1.size ≤ l
  | [], _, _, _, _, _, x, hx => by cases hx
  | y :: r, l, h0, hi, hw, h, x, hx => by
    obtain ⟨a1, a2, a3⟩ := sz13 y l h0 hi (hw y (List.mem_cons_self ..))
    rw [i64_iff] at hi
    simp only [szL4] at h
    split at h
    · omega
    · rename_i hn
      rcases List.mem_cons.1 hx with rfl | hx
      · unfold g13_0 at hn
        simp only [decide_eq_true_eq] at hn
        split at hn
        · omega
        · split at hn
          · omega
          · split at hn
            · omega
            · omega
      · have := sz_memb r _ (by omega) (by rw [i64_iff]; omega) (fun z hz => hw z (List.mem_cons_of_mem _ hz)) h x hx
        omega


end Go.Proofs.YteojabdeehagnaaGreatDoor

/- A law that says how functions of the program and of the specification hang together. -/
set_option linter.unusedVariables false
set_option linter.unusedSimpArgs false
set_option maxRecDepth 100000
namespace Go.Proofs.YteojabdeehagnaaGreatDoor
open Go Go.Am Go.Proofs

theorem marked_blk (xs : List (ByteArray × ByteArray × ByteArray × Unit)) (h : xs.length ≤ 1048576) : P10 xs 1 ∧ (u10_0 xs 1).length = xs.length ∧ ¬ g10_0 xs 1 < 0 := by
  have hl : (u10_0 xs 1).length = xs.length := by rw [u10_0, M10_len]
  refine ⟨⟨by omega, by omega⟩, hl, ?_⟩
  unfold g10_0
  omega

theorem marked2_blk (xs ys : List (ByteArray × ByteArray × ByteArray × Unit)) (h : xs.length + ys.length ≤ 1048576) : P10 ys (g10_0 xs 1) ∧ (u10_0 ys (g10_0 xs 1)).length = ys.length ∧ ¬ g10_0 ys (g10_0 xs 1) < 0 := by
  have hl : (u10_0 ys (g10_0 xs 1)).length = ys.length := by rw [u10_0, M10_len]
  refine ⟨⟨?_, ?_⟩, hl, ?_⟩ <;> unfold g10_0 <;> omega

end Go.Proofs.YteojabdeehagnaaGreatDoor

/- A law that says how functions of the program and of the specification hang together. -/
set_option linter.unusedVariables false
set_option linter.unusedSimpArgs false
set_option maxRecDepth 100000
namespace Go.Proofs.YteojabdeehagnaaGreatDoor
open Go Go.Am Go.Proofs

theorem marked_check (xs : List (ByteArray × Int × Int × Int × Int × Unit)) (h : xs.length ≤ 1048576) : P11 xs 1 ∧ (u11_0 xs 1).length = xs.length ∧ ¬ g11_0 xs 1 < 0 := by
  have hl : (u11_0 xs 1).length = xs.length := by rw [u11_0, M11_len]
  refine ⟨⟨by omega, by omega⟩, hl, ?_⟩
  unfold g11_0
  omega

end Go.Proofs.YteojabdeehagnaaGreatDoor

/- A law that says how functions of the program and of the specification hang together. -/
set_option linter.unusedVariables false
set_option linter.unusedSimpArgs false
set_option maxRecDepth 100000
namespace Go.Proofs.YteojabdeehagnaaGreatDoor
open Go Go.Am Go.Proofs

theorem held_check (xs : List (ByteArray × Int × Int × Int × Int × Unit)) (h : xs.length ≤ 1048576) : P12 (u11_0 xs 1) 1 ∧ g12_0 (u11_0 xs 1) 1 = g11_0 xs 1 := by
  have hl : (u11_0 xs 1).length = xs.length := by rw [u11_0, M11_len]
  refine ⟨⟨⟨by omega, by rw [hl]; omega⟩, fun i hi => ?_⟩, ?_⟩
  · rw [hl] at hi
    rw [getD_lt _ _ _ (by rw [hl]; exact hi)]
    simp [u11_0, M11]
  · unfold g12_0 g11_0
    rw [hl]

end Go.Proofs.YteojabdeehagnaaGreatDoor

/- The plain law of FnExactChecksOfBlocks. -/
set_option linter.unusedVariables false
set_option linter.unusedSimpArgs false
set_option maxRecDepth 100000
namespace Go.Proofs.YteojabdeehagnaaGreatDoor
open Go Go.Am Go.Proofs

theorem is_eq (b : (ByteArray × ByteArray × ByteArray × Unit)) : is7 b = is5 b := rfl

theorem co_eq : ∀ (xs : List (ByteArray × ByteArray × ByteArray × Unit)) (h : List (ByteArray × Int × Int × Int × Int × Unit)), (∀ b ∈ xs, b.2.2.1.size ≤ 1048576) → co7 xs h = co5 xs h
  | [], _, _ => rfl
  | b :: r, h, hb => by
    obtain ⟨_, _, e0, e1⟩ := read_check b.2.2.1 (hb b (List.mem_cons_self ..))
    have hr : ∀ c ∈ r, c.2.2.1.size ≤ 1048576 := fun c hc => hb c (List.mem_cons_of_mem _ hc)
    unfold co7 co5
    rw [is_eq, e0, e1, co_eq r h hr, co_eq r _ hr]

theorem out_eqC (s : Int ⊕ List (ByteArray × Int × Int × Int × Int × Unit)) : out7 s = out5 s := by cases s <;> rfl

theorem all_eqC (x : List (ByteArray × ByteArray × ByteArray × Unit)) (hb : ∀ b ∈ x, b.2.2.1.size ≤ 1048576) : all7 x = all5 x := by
  unfold all7 all5
  rw [blocks_eq, co_eq x [] hb, out_eqC]

theorem all_len (x : List (ByteArray × ByteArray × ByteArray × Unit)) : (all5 x).1.length ≤ 1048576 := by
  unfold all5
  split
  · exact Nat.zero_le _
  · cases co5 x [] with
    | inl c => exact Nat.zero_le _
    | inr h =>
      unfold out5
      simp only
      split
      · exact Nat.zero_le _
      · show h.length ≤ _; omega

theorem law3 (x : List (ByteArray × ByteArray × ByteArray × Unit)) (hw : Wf (.sl (.cons .str (.cons .str (.cons .str .unit)))) x) : P3 x ∧ g3_0 x = true := by
  unfold P3 g3_0
  have hz : P4 x 1048576 := (show (0 : Int) ≤ 1048576 from by decide)
  by_cases h : g4_0 x 1048576 < 0
  · simp only [h, hz, decide_true, if_true, and_true]
  · have hs := g4_le x 1048576 (by decide) (by decide) hw h
    have hp : P6 x := by
      show 48 * (x.length : Int) ≤ 281474976710656
      omega
    have hsm : ∀ y ∈ x, y.2.2.1.size ≤ 1048576 := by
      intro y hy
      unfold g4_0 at h
      split at h
      · omega
      · have := sz_memb x _ (by omega) (by rw [i64_iff]; omega) hw.2 h y hy
        omega
    have p1 : P5 x := ⟨by omega, fun y hy => (read_check _ (hsm y hy)).1⟩
    have p2 : P7 x := ⟨by omega, fun y hy => (read_check _ (hsm y hy)).2.1⟩
    have e := all_eqC x hsm
    have e0 : g7_0 x = g5_0 x := by unfold g7_0 g5_0; rw [e]
    have e1 : g7_1 x = g5_1 x := by unfold g7_1 g5_1; rw [e]
    have hl : (g5_0 x).length ≤ 1048576 := all_len x
    obtain ⟨b1, b2, b3⟩ := marked_blk x (by omega)
    obtain ⟨c1, c2, c3⟩ := marked_check (g5_0 x) hl
    obtain ⟨d1, d2⟩ := held_check (g5_0 x) hl
    simp only [h, decide_false, Bool.false_eq_true, if_false, g6_0, e0, e1, p1, p2, g9_0, g8_0, decide_true, Bool.not_true, bne_self_eq_false, beq_self_eq_true, b1, b2, b3, c1, c2, c3, d1, d2, hp, hz, true_and, and_self]

end Go.Proofs.YteojabdeehagnaaGreatDoor
