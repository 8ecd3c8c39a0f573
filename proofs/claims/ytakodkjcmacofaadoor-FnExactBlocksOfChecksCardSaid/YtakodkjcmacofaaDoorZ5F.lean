/- Several texts in one: the functions that this law reaches, and their laws. -/
import Derived.Test.YtakodkjcmacofaaDoorZ5A
import Derived.Test.YtakodkjcmacofaaDoorZ5B
import Derived.Test.YtakodkjcmacofaaDoorZ5C
import Derived.Test.YtakodkjcmacofaaDoorZ5D
import Derived.Test.YtakodkjcmacofaaDoorZ5E

/- Function 24 (laws.markBlockS): its runs between cut points. Written by a program of this repo (gen). -/
set_option linter.unusedVariables false
set_option linter.unusedSimpArgs false
set_option maxRecDepth 100000
namespace Go.Proofs.YtakodkjcmacofaaDoor
open Go Go.Am Go.Proofs
def ext24 : Ext := [(78, S78)]
theorem call24_78 : Callable Tryd.prog 78 := ⟨Tryd.f78, Tryd.func78, by kernel_rfl, by kernel_rfl⟩
theorem ext24Ok : ExtOk Tryd.prog ext24 := ⟨⟨call24_78, con78⟩, trivial⟩
/-! Function 24. -/
noncomputable def b24 : Code := bodyOf Tryd.f24
theorem hb24 : Tryd.f24.body = some b24 := by kernel_rfl
def sig24 : List AT := [AT.own (Ty.cons Ty.str (Ty.cons Ty.str (Ty.cons Ty.str Ty.unit))), AT.v (Ty.int IntKind.i64)]
def tys24 : List Ty := [Ty.int IntKind.i64]
def E24_2 (v5 : Int) (x1 : Int) (x0 : List (ByteArray × ByteArray × ByteArray × Unit)) : Env := [(0, PV.a (Atom.osl 0 Option.none)), (1, PV.a (Atom.val (Value.int IntKind.i64 x1))), (5, PV.a (Atom.val (Value.int IntKind.i64 v5)))]
def L24_2 (v5 : Int) (x1 : Int) (x0 : List (ByteArray × ByteArray × ByteArray × Unit)) : Heap := [Option.some (Arr.mk (Ty.cons Ty.str (Ty.cons Ty.str (Ty.cons Ty.str Ty.unit))) x0 Bool.false)]
mutual
def R24 : Nat → List (ByteArray × ByteArray × ByteArray × Unit) → Int → List Dyn → List (Option Lst) → Prop
  | 0, _, _, _, _ => False
  | n + 1, x0, x1, ds, us => (R24_2 n (0) (x1) (x0) ds us)
def R24_2 : Nat → Int → Int → List (ByteArray × ByteArray × ByteArray × Unit) → List Dyn → List (Option Lst) → Prop
  | 0, _, _, _, _, _ => False
  | n + 1, v5, x1, x0, ds, us => (if (Decidable.decide (v5 < (↑(List.length x0) : Int))) = true then ((0 ≤ v5) ∧ (v5 < (↑(List.length x0) : Int)) ∧ ((InR IntKind.i64 (x1 + 1)) ∧ ((0 ≤ v5) ∧ (v5 < (↑(List.length (List.set x0 (Int.toNat v5) (g78_0 x1, Prod.snd (List.getD x0 (Int.toNat v5) (ByteArray.empty, ByteArray.empty, ByteArray.empty, ()))))) : Int)) ∧ ((InR IntKind.i64 (x1 + 1 + 1)) ∧ ((0 ≤ v5) ∧ (v5 < (↑(List.length (List.set (List.set x0 (Int.toNat v5) (g78_0 x1, Prod.snd (List.getD x0 (Int.toNat v5) (ByteArray.empty, ByteArray.empty, ByteArray.empty, ())))) (Int.toNat v5) (Prod.fst (List.getD (List.set x0 (Int.toNat v5) (g78_0 x1, Prod.snd (List.getD x0 (Int.toNat v5) (ByteArray.empty, ByteArray.empty, ByteArray.empty, ())))) (Int.toNat v5) (ByteArray.empty, ByteArray.empty, ByteArray.empty, ())), g78_0 (x1 + 1), Prod.snd (Prod.snd (List.getD (List.set x0 (Int.toNat v5) (g78_0 x1, Prod.snd (List.getD x0 (Int.toNat v5) (ByteArray.empty, ByteArray.empty, ByteArray.empty, ())))) (Int.toNat v5) (ByteArray.empty, ByteArray.empty, ByteArray.empty, ())))))) : Int)) ∧ ((InR IntKind.i64 (x1 + 1 + 1 + 1)) ∧ ((InR IntKind.i64 (v5 + 1)) ∧ (R24_2 n (v5 + 1) (x1 + 1 + 1 + 1) (List.set (List.set (List.set x0 (Int.toNat v5) (g78_0 x1, Prod.snd (List.getD x0 (Int.toNat v5) (ByteArray.empty, ByteArray.empty, ByteArray.empty, ())))) (Int.toNat v5) (Prod.fst (List.getD (List.set x0 (Int.toNat v5) (g78_0 x1, Prod.snd (List.getD x0 (Int.toNat v5) (ByteArray.empty, ByteArray.empty, ByteArray.empty, ())))) (Int.toNat v5) (ByteArray.empty, ByteArray.empty, ByteArray.empty, ())), g78_0 (x1 + 1), Prod.snd (Prod.snd (List.getD (List.set x0 (Int.toNat v5) (g78_0 x1, Prod.snd (List.getD x0 (Int.toNat v5) (ByteArray.empty, ByteArray.empty, ByteArray.empty, ())))) (Int.toNat v5) (ByteArray.empty, ByteArray.empty, ByteArray.empty, ()))))) (Int.toNat v5) (Prod.fst (List.getD (List.set (List.set x0 (Int.toNat v5) (g78_0 x1, Prod.snd (List.getD x0 (Int.toNat v5) (ByteArray.empty, ByteArray.empty, ByteArray.empty, ())))) (Int.toNat v5) (Prod.fst (List.getD (List.set x0 (Int.toNat v5) (g78_0 x1, Prod.snd (List.getD x0 (Int.toNat v5) (ByteArray.empty, ByteArray.empty, ByteArray.empty, ())))) (Int.toNat v5) (ByteArray.empty, ByteArray.empty, ByteArray.empty, ())), g78_0 (x1 + 1), Prod.snd (Prod.snd (List.getD (List.set x0 (Int.toNat v5) (g78_0 x1, Prod.snd (List.getD x0 (Int.toNat v5) (ByteArray.empty, ByteArray.empty, ByteArray.empty, ())))) (Int.toNat v5) (ByteArray.empty, ByteArray.empty, ByteArray.empty, ()))))) (Int.toNat v5) (ByteArray.empty, ByteArray.empty, ByteArray.empty, ())), Prod.fst (Prod.snd (List.getD (List.set (List.set x0 (Int.toNat v5) (g78_0 x1, Prod.snd (List.getD x0 (Int.toNat v5) (ByteArray.empty, ByteArray.empty, ByteArray.empty, ())))) (Int.toNat v5) (Prod.fst (List.getD (List.set x0 (Int.toNat v5) (g78_0 x1, Prod.snd (List.getD x0 (Int.toNat v5) (ByteArray.empty, ByteArray.empty, ByteArray.empty, ())))) (Int.toNat v5) (ByteArray.empty, ByteArray.empty, ByteArray.empty, ())), g78_0 (x1 + 1), Prod.snd (Prod.snd (List.getD (List.set x0 (Int.toNat v5) (g78_0 x1, Prod.snd (List.getD x0 (Int.toNat v5) (ByteArray.empty, ByteArray.empty, ByteArray.empty, ())))) (Int.toNat v5) (ByteArray.empty, ByteArray.empty, ByteArray.empty, ()))))) (Int.toNat v5) (ByteArray.empty, ByteArray.empty, ByteArray.empty, ()))), g78_0 (x1 + 1 + 1), Prod.snd (Prod.snd (Prod.snd (List.getD (List.set (List.set x0 (Int.toNat v5) (g78_0 x1, Prod.snd (List.getD x0 (Int.toNat v5) (ByteArray.empty, ByteArray.empty, ByteArray.empty, ())))) (Int.toNat v5) (Prod.fst (List.getD (List.set x0 (Int.toNat v5) (g78_0 x1, Prod.snd (List.getD x0 (Int.toNat v5) (ByteArray.empty, ByteArray.empty, ByteArray.empty, ())))) (Int.toNat v5) (ByteArray.empty, ByteArray.empty, ByteArray.empty, ())), g78_0 (x1 + 1), Prod.snd (Prod.snd (List.getD (List.set x0 (Int.toNat v5) (g78_0 x1, Prod.snd (List.getD x0 (Int.toNat v5) (ByteArray.empty, ByteArray.empty, ByteArray.empty, ())))) (Int.toNat v5) (ByteArray.empty, ByteArray.empty, ByteArray.empty, ()))))) (Int.toNat v5) (ByteArray.empty, ByteArray.empty, ByteArray.empty, ())))))) ds us)))))))) else (ds = [Dyn.mk (Ty.int IntKind.i64) x1] ∧ us = [Option.some (Lst.mk (Ty.cons Ty.str (Ty.cons Ty.str (Ty.cons Ty.str Ty.unit))) x0)]))
end
theorem p24_0 (x0 : List (ByteArray × ByteArray × ByteArray × Unit)) (x1 : Int) : Am.runN tab ext24 false 37 [] 2000 [0] [] [0, 1, 5] [0] [] [.code b24] (entE 0 0 sig24 (x0, x1, ())) (entL sig24 (x0, x1, ())) = some (cutAt b24 2, E24_2 (0) (x1) (x0), L24_2 (0) (x1) (x0), []) := by kernel_rfl
theorem p24_1 (v5 : Int) (x1 : Int) (x0 : List (ByteArray × ByteArray × ByteArray × Unit)) : Am.runN tab ext24 false 37 [] 2000 [0] [] [0, 1, 5] [0] [true] (cutAt b24 2) (E24_2 v5 x1 x0) (L24_2 v5 x1 x0) = some (cutAt b24 2, E24_2 (v5 + 1) (x1 + 1 + 1 + 1) (List.set (List.set (List.set x0 (Int.toNat v5) (g78_0 x1, Prod.snd (List.getD x0 (Int.toNat v5) (ByteArray.empty, ByteArray.empty, ByteArray.empty, ())))) (Int.toNat v5) (Prod.fst (List.getD (List.set x0 (Int.toNat v5) (g78_0 x1, Prod.snd (List.getD x0 (Int.toNat v5) (ByteArray.empty, ByteArray.empty, ByteArray.empty, ())))) (Int.toNat v5) (ByteArray.empty, ByteArray.empty, ByteArray.empty, ())), g78_0 (x1 + 1), Prod.snd (Prod.snd (List.getD (List.set x0 (Int.toNat v5) (g78_0 x1, Prod.snd (List.getD x0 (Int.toNat v5) (ByteArray.empty, ByteArray.empty, ByteArray.empty, ())))) (Int.toNat v5) (ByteArray.empty, ByteArray.empty, ByteArray.empty, ()))))) (Int.toNat v5) (Prod.fst (List.getD (List.set (List.set x0 (Int.toNat v5) (g78_0 x1, Prod.snd (List.getD x0 (Int.toNat v5) (ByteArray.empty, ByteArray.empty, ByteArray.empty, ())))) (Int.toNat v5) (Prod.fst (List.getD (List.set x0 (Int.toNat v5) (g78_0 x1, Prod.snd (List.getD x0 (Int.toNat v5) (ByteArray.empty, ByteArray.empty, ByteArray.empty, ())))) (Int.toNat v5) (ByteArray.empty, ByteArray.empty, ByteArray.empty, ())), g78_0 (x1 + 1), Prod.snd (Prod.snd (List.getD (List.set x0 (Int.toNat v5) (g78_0 x1, Prod.snd (List.getD x0 (Int.toNat v5) (ByteArray.empty, ByteArray.empty, ByteArray.empty, ())))) (Int.toNat v5) (ByteArray.empty, ByteArray.empty, ByteArray.empty, ()))))) (Int.toNat v5) (ByteArray.empty, ByteArray.empty, ByteArray.empty, ())), Prod.fst (Prod.snd (List.getD (List.set (List.set x0 (Int.toNat v5) (g78_0 x1, Prod.snd (List.getD x0 (Int.toNat v5) (ByteArray.empty, ByteArray.empty, ByteArray.empty, ())))) (Int.toNat v5) (Prod.fst (List.getD (List.set x0 (Int.toNat v5) (g78_0 x1, Prod.snd (List.getD x0 (Int.toNat v5) (ByteArray.empty, ByteArray.empty, ByteArray.empty, ())))) (Int.toNat v5) (ByteArray.empty, ByteArray.empty, ByteArray.empty, ())), g78_0 (x1 + 1), Prod.snd (Prod.snd (List.getD (List.set x0 (Int.toNat v5) (g78_0 x1, Prod.snd (List.getD x0 (Int.toNat v5) (ByteArray.empty, ByteArray.empty, ByteArray.empty, ())))) (Int.toNat v5) (ByteArray.empty, ByteArray.empty, ByteArray.empty, ()))))) (Int.toNat v5) (ByteArray.empty, ByteArray.empty, ByteArray.empty, ()))), g78_0 (x1 + 1 + 1), Prod.snd (Prod.snd (Prod.snd (List.getD (List.set (List.set x0 (Int.toNat v5) (g78_0 x1, Prod.snd (List.getD x0 (Int.toNat v5) (ByteArray.empty, ByteArray.empty, ByteArray.empty, ())))) (Int.toNat v5) (Prod.fst (List.getD (List.set x0 (Int.toNat v5) (g78_0 x1, Prod.snd (List.getD x0 (Int.toNat v5) (ByteArray.empty, ByteArray.empty, ByteArray.empty, ())))) (Int.toNat v5) (ByteArray.empty, ByteArray.empty, ByteArray.empty, ())), g78_0 (x1 + 1), Prod.snd (Prod.snd (List.getD (List.set x0 (Int.toNat v5) (g78_0 x1, Prod.snd (List.getD x0 (Int.toNat v5) (ByteArray.empty, ByteArray.empty, ByteArray.empty, ())))) (Int.toNat v5) (ByteArray.empty, ByteArray.empty, ByteArray.empty, ()))))) (Int.toNat v5) (ByteArray.empty, ByteArray.empty, ByteArray.empty, ())))))), L24_2 (v5 + 1) (x1 + 1 + 1 + 1) (List.set (List.set (List.set x0 (Int.toNat v5) (g78_0 x1, Prod.snd (List.getD x0 (Int.toNat v5) (ByteArray.empty, ByteArray.empty, ByteArray.empty, ())))) (Int.toNat v5) (Prod.fst (List.getD (List.set x0 (Int.toNat v5) (g78_0 x1, Prod.snd (List.getD x0 (Int.toNat v5) (ByteArray.empty, ByteArray.empty, ByteArray.empty, ())))) (Int.toNat v5) (ByteArray.empty, ByteArray.empty, ByteArray.empty, ())), g78_0 (x1 + 1), Prod.snd (Prod.snd (List.getD (List.set x0 (Int.toNat v5) (g78_0 x1, Prod.snd (List.getD x0 (Int.toNat v5) (ByteArray.empty, ByteArray.empty, ByteArray.empty, ())))) (Int.toNat v5) (ByteArray.empty, ByteArray.empty, ByteArray.empty, ()))))) (Int.toNat v5) (Prod.fst (List.getD (List.set (List.set x0 (Int.toNat v5) (g78_0 x1, Prod.snd (List.getD x0 (Int.toNat v5) (ByteArray.empty, ByteArray.empty, ByteArray.empty, ())))) (Int.toNat v5) (Prod.fst (List.getD (List.set x0 (Int.toNat v5) (g78_0 x1, Prod.snd (List.getD x0 (Int.toNat v5) (ByteArray.empty, ByteArray.empty, ByteArray.empty, ())))) (Int.toNat v5) (ByteArray.empty, ByteArray.empty, ByteArray.empty, ())), g78_0 (x1 + 1), Prod.snd (Prod.snd (List.getD (List.set x0 (Int.toNat v5) (g78_0 x1, Prod.snd (List.getD x0 (Int.toNat v5) (ByteArray.empty, ByteArray.empty, ByteArray.empty, ())))) (Int.toNat v5) (ByteArray.empty, ByteArray.empty, ByteArray.empty, ()))))) (Int.toNat v5) (ByteArray.empty, ByteArray.empty, ByteArray.empty, ())), Prod.fst (Prod.snd (List.getD (List.set (List.set x0 (Int.toNat v5) (g78_0 x1, Prod.snd (List.getD x0 (Int.toNat v5) (ByteArray.empty, ByteArray.empty, ByteArray.empty, ())))) (Int.toNat v5) (Prod.fst (List.getD (List.set x0 (Int.toNat v5) (g78_0 x1, Prod.snd (List.getD x0 (Int.toNat v5) (ByteArray.empty, ByteArray.empty, ByteArray.empty, ())))) (Int.toNat v5) (ByteArray.empty, ByteArray.empty, ByteArray.empty, ())), g78_0 (x1 + 1), Prod.snd (Prod.snd (List.getD (List.set x0 (Int.toNat v5) (g78_0 x1, Prod.snd (List.getD x0 (Int.toNat v5) (ByteArray.empty, ByteArray.empty, ByteArray.empty, ())))) (Int.toNat v5) (ByteArray.empty, ByteArray.empty, ByteArray.empty, ()))))) (Int.toNat v5) (ByteArray.empty, ByteArray.empty, ByteArray.empty, ()))), g78_0 (x1 + 1 + 1), Prod.snd (Prod.snd (Prod.snd (List.getD (List.set (List.set x0 (Int.toNat v5) (g78_0 x1, Prod.snd (List.getD x0 (Int.toNat v5) (ByteArray.empty, ByteArray.empty, ByteArray.empty, ())))) (Int.toNat v5) (Prod.fst (List.getD (List.set x0 (Int.toNat v5) (g78_0 x1, Prod.snd (List.getD x0 (Int.toNat v5) (ByteArray.empty, ByteArray.empty, ByteArray.empty, ())))) (Int.toNat v5) (ByteArray.empty, ByteArray.empty, ByteArray.empty, ())), g78_0 (x1 + 1), Prod.snd (Prod.snd (List.getD (List.set x0 (Int.toNat v5) (g78_0 x1, Prod.snd (List.getD x0 (Int.toNat v5) (ByteArray.empty, ByteArray.empty, ByteArray.empty, ())))) (Int.toNat v5) (ByteArray.empty, ByteArray.empty, ByteArray.empty, ()))))) (Int.toNat v5) (ByteArray.empty, ByteArray.empty, ByteArray.empty, ())))))), [Decidable.decide (v5 < (↑(List.length x0) : Int)) = Bool.true, True, 0 ≤ v5, v5 < (↑(List.length x0) : Int), InR IntKind.i64 (x1 + 1), True, 0 ≤ v5, v5 < (↑(List.length (List.set x0 (Int.toNat v5) (g78_0 x1, Prod.snd (List.getD x0 (Int.toNat v5) (ByteArray.empty, ByteArray.empty, ByteArray.empty, ()))))) : Int), InR IntKind.i64 (x1 + 1 + 1), True, 0 ≤ v5, v5 < (↑(List.length (List.set (List.set x0 (Int.toNat v5) (g78_0 x1, Prod.snd (List.getD x0 (Int.toNat v5) (ByteArray.empty, ByteArray.empty, ByteArray.empty, ())))) (Int.toNat v5) (Prod.fst (List.getD (List.set x0 (Int.toNat v5) (g78_0 x1, Prod.snd (List.getD x0 (Int.toNat v5) (ByteArray.empty, ByteArray.empty, ByteArray.empty, ())))) (Int.toNat v5) (ByteArray.empty, ByteArray.empty, ByteArray.empty, ())), g78_0 (x1 + 1), Prod.snd (Prod.snd (List.getD (List.set x0 (Int.toNat v5) (g78_0 x1, Prod.snd (List.getD x0 (Int.toNat v5) (ByteArray.empty, ByteArray.empty, ByteArray.empty, ())))) (Int.toNat v5) (ByteArray.empty, ByteArray.empty, ByteArray.empty, ())))))) : Int), InR IntKind.i64 (x1 + 1 + 1 + 1), InR IntKind.i64 (v5 + 1)]) := by kernel_rfl
theorem p24_2 (v5 : Int) (x1 : Int) (x0 : List (ByteArray × ByteArray × ByteArray × Unit)) : runF tab ext24 false 37 [] 2000 [0] tys24 Tryd.f24.results [false] (cutAt b24 2) (E24_2 v5 x1 x0) (L24_2 v5 x1 x0) = some ([Dyn.mk (Ty.int IntKind.i64) x1], [Option.some (Lst.mk (Ty.cons Ty.str (Ty.cons Ty.str (Ty.cons Ty.str Ty.unit))) x0)], [Decidable.decide (v5 < (↑(List.length x0) : Int)) = Bool.false]) := by kernel_rfl
theorem snd24 : ∀ n, (∀ (x0 : List (ByteArray × ByteArray × ByteArray × Unit)) (x1 : Int) ds us, R24 n x0 x1 ds us → ∀ w0 O q, AtV Tryd.prog 24 (PostR ds us [0] q w0 O) 37 w0 O q [0] [.code b24] (entE 0 0 sig24 (x0, x1, ())) (entL sig24 (x0, x1, ()))) ∧ (∀ (v5 : Int) (x1 : Int) (x0 : List (ByteArray × ByteArray × ByteArray × Unit)) ds us, R24_2 n v5 x1 x0 ds us → ∀ w0 O q, AtV Tryd.prog 24 (PostR ds us [0] q w0 O) 37 w0 O q [0] (cutAt b24 2) (E24_2 v5 x1 x0) (L24_2 v5 x1 x0)) := by
  intro n
  induction n with
  | zero => exact ⟨fun _ _ _ _ h => by simp only [R24] at h, fun _ _ _ _ _ h => by simp only [R24_2] at h⟩
  | succ n ih =>
  obtain ⟨ih, ih2⟩ := ih
  refine ⟨?_, ?_⟩
  · intro x0 x1 ds us h w0 O q
    rw [R24] at h
    exact AtV.runN tabOk ext24Ok mixed (p24_0 x0 x1) trivial (ih2 _ _ _ _ _ h w0 O q)

  · intro v5 x1 x0 ds us h w0 O q
    rw [R24_2] at h
    by_cases b0 : (Decidable.decide (v5 < (↑(List.length x0) : Int))) = true
    · rw [if_pos b0] at h
      obtain ⟨s0, s1, h⟩ := h
      obtain ⟨s2, h⟩ := h
      obtain ⟨s3, s4, h⟩ := h
      obtain ⟨s5, h⟩ := h
      obtain ⟨s6, s7, h⟩ := h
      obtain ⟨s8, h⟩ := h
      obtain ⟨s9, h⟩ := h
      exact AtV.runN tabOk ext24Ok mixed (p24_1 v5 x1 x0) ⟨b0, trivial, s0, s1, s2, trivial, s3, s4, s5, trivial, s6, s7, s8, s9, trivial⟩ (ih2 _ _ _ _ _ h w0 O q)
    · rw [if_neg b0] at h
      replace b0 := Bool.eq_false_iff.2 b0
      obtain ⟨h, h'⟩ := h; subst h; subst h'
      exact AtV.fin Tryd.func24 tabOk ext24Ok mixed (p24_2 v5 x1 x0) ⟨b0, trivial⟩



def M24 (x1 : Int) (n : Nat) : List (ByteArray × ByteArray × ByteArray × Unit) := (List.range n).map fun (j : Nat) => (g78_0 (x1 + 3 * (j : Int)), g78_0 (x1 + 3 * (j : Int) + 1), g78_0 (x1 + 3 * (j : Int) + 1 + 1), ())

theorem M24_len (x1 : Int) (n : Nat) : (M24 x1 n).length = n := by simp [M24]

theorem M24_succ (x1 : Int) (n : Nat) : M24 x1 (n + 1) = M24 x1 n ++ [(g78_0 (x1 + 3 * (n : Int)), g78_0 (x1 + 3 * (n : Int) + 1), g78_0 (x1 + 3 * (n : Int) + 1 + 1), ())] := by
  simp [M24, List.range_succ]

theorem run24 (x0 : List (ByteArray × ByteArray × ByteArray × Unit)) (x1 : Int) (hm : x0.length ≤ maxLen) (h0 : 0 ≤ x1) (h1 : x1 + 3 * x0.length ≤ 9223372036854775807) : ∀ (k i : Nat), i + k = x0.length →
    R24_2 (k + 1) (i : Int) (x1 + 3 * (i : Int)) (M24 x1 i ++ x0.drop i) [⟨.int .i64, x1 + 3 * (x0.length : Int)⟩] [some ⟨(.cons .str (.cons .str (.cons .str .unit))), M24 x1 x0.length⟩] := by
  intro k
  induction k with
  | zero =>
    intro i hi
    have hl : (M24 x1 i ++ x0.drop i).length = x0.length := by simp [M24_len]; omega
    rw [R24_2, if_neg (by rw [hl]; simp; omega), drop_end x0 i (by omega), List.append_nil]
    have : i = x0.length := by omega
    subst this
    exact ⟨rfl, rfl⟩
  | succ k ih =>
    intro i hi
    have hl : (M24 x1 i ++ x0.drop i).length = x0.length := by simp [M24_len]; omega
    have hA := M24_len x1 i
    rw [R24_2, if_pos (by rw [hl]; simp; omega)]
    rw [drop_get x0 i (ByteArray.empty, ByteArray.empty, ByteArray.empty, ()) (by omega)] at hl ⊢
    simp only [Int.toNat_natCast, set_mid _ _ _ _ i hA, get_mid _ _ _ _ i hA]
    have hl' : ∀ y : (ByteArray × ByteArray × ByteArray × Unit), ((M24 x1 i ++ y :: x0.drop (i + 1)).length : Int) = x0.length := fun y => by rw [← hl]; simp
    simp only [hl']
    refine ⟨by omega, by omega, by rw [i64_iff]; omega, by omega, by omega, by rw [i64_iff]; omega, by omega, by omega, by rw [i64_iff]; omega, inR_up hm (by omega), ?_⟩
    have hx : x1 + 3 * (i : Int) + 1 + 1 + 1 = x1 + 3 * ((i + 1 : Nat) : Int) := by omega
    have := ih (i + 1) (by omega)
    rw [M24_succ, List.append_assoc] at this
    rw [hx]
    simpa using this

def P24 (x0 : List (ByteArray × ByteArray × ByteArray × Unit)) (x1 : Int) : Prop := 0 ≤ x1 ∧ x1 + 3 * x0.length ≤ 9223372036854775807
def g24_0 (x0 : List (ByteArray × ByteArray × ByteArray × Unit)) (x1 : Int) : Int := x1 + 3 * (x0.length : Int)
def u24_0 (x0 : List (ByteArray × ByteArray × ByteArray × Unit)) (x1 : Int) : List (ByteArray × ByteArray × ByteArray × Unit) := M24 x1 x0.length

theorem top24 (x0 : List (ByteArray × ByteArray × ByteArray × Unit)) (x1 : Int) (hm : x0.length ≤ maxLen) (h : P24 x0 x1) : R24 (x0.length + 1 + 1) x0 x1 [⟨.int .i64, g24_0 x0 x1⟩] [some ⟨(.cons .str (.cons .str (.cons .str .unit))), u24_0 x0 x1⟩] := by
  rw [R24]
  have := run24 x0 x1 hm h.1 h.2 x0.length 0 (by omega)
  simpa [M24, g24_0, u24_0] using this

def S24 : Am.Spec := { sig := sig24, pre := fun ⟨x0, x1, _⟩ => P24 x0 x1, upd := fun ⟨x0, x1, _⟩ => [some ⟨(.cons .str (.cons .str (.cons .str .unit))), u24_0 x0 x1⟩], res := fun ⟨x0, x1, _⟩ => [⟨.int .i64, g24_0 x0 x1⟩] }
theorem con24 : Contract Tryd.prog 24 S24 := contract_of Tryd.func24 hb24 (Nat.le_of_ble_eq_true (by kernel_rfl)) (fun ⟨x0, x1, _⟩ h hwf w0 O q =>
  (snd24 _).1 x0 x1 _ _ (top24 x0 x1 hwf.1.1 h) w0 O q)

end Go.Proofs.YtakodkjcmacofaaDoor

/- Function 25 (laws.heldBlockS): its runs between cut points. Written by a program of this repo (gen). -/
set_option linter.unusedVariables false
set_option linter.unusedSimpArgs false
set_option maxRecDepth 100000
namespace Go.Proofs.YtakodkjcmacofaaDoor
open Go Go.Am Go.Proofs
def ext25 : Ext := [(78, S78)]
theorem call25_78 : Callable Tryd.prog 78 := ⟨Tryd.f78, Tryd.func78, by kernel_rfl, by kernel_rfl⟩
theorem ext25Ok : ExtOk Tryd.prog ext25 := ⟨⟨call25_78, con78⟩, trivial⟩
/-! Function 25. -/
noncomputable def b25 : Code := bodyOf Tryd.f25
theorem hb25 : Tryd.f25.body = some b25 := by kernel_rfl
def sig25 : List AT := [AT.v (Ty.sl (Ty.cons Ty.str (Ty.cons Ty.str (Ty.cons Ty.str Ty.unit)))), AT.v (Ty.int IntKind.i64)]
def tys25 : List Ty := [Ty.int IntKind.i64]
def E25_2 (v5 : Int) (x0 : List (ByteArray × ByteArray × ByteArray × Unit)) (x1 : Int) : Env := [(0, PV.a (Atom.sl (Ty.cons Ty.str (Ty.cons Ty.str (Ty.cons Ty.str Ty.unit))) x0)), (1, PV.a (Atom.val (Value.int IntKind.i64 x1))), (5, PV.a (Atom.val (Value.int IntKind.i64 v5)))]
def L25_2 (v5 : Int) (x0 : List (ByteArray × ByteArray × ByteArray × Unit)) (x1 : Int) : Heap := []
mutual
def R25 : Nat → List (ByteArray × ByteArray × ByteArray × Unit) → Int → List Dyn → Prop
  | 0, _, _, _ => False
  | n + 1, x0, x1, ds => (R25_2 n (0) (x0) (x1) ds)
def R25_2 : Nat → Int → List (ByteArray × ByteArray × ByteArray × Unit) → Int → List Dyn → Prop
  | 0, _, _, _, _ => False
  | n + 1, v5, x0, x1, ds => (if (Decidable.decide (v5 < (↑(List.length x0) : Int))) = true then ((0 ≤ v5) ∧ (v5 < (↑(List.length x0) : Int)) ∧ (if (!ByteArray.toList (Prod.fst (List.getD x0 (Int.toNat v5) (ByteArray.empty, ByteArray.empty, ByteArray.empty, ()))) == ByteArray.toList (g78_0 x1)) = true then (ds = [Dyn.mk (Ty.int IntKind.i64) (-1)]) else ((InR IntKind.i64 (x1 + 1)) ∧ ((0 ≤ v5) ∧ (v5 < (↑(List.length x0) : Int)) ∧ (if (!ByteArray.toList (Prod.fst (Prod.snd (List.getD x0 (Int.toNat v5) (ByteArray.empty, ByteArray.empty, ByteArray.empty, ())))) == ByteArray.toList (g78_0 (x1 + 1))) = true then (ds = [Dyn.mk (Ty.int IntKind.i64) (-1)]) else ((InR IntKind.i64 (x1 + 1 + 1)) ∧ ((0 ≤ v5) ∧ (v5 < (↑(List.length x0) : Int)) ∧ (if (!ByteArray.toList (Prod.fst (Prod.snd (Prod.snd (List.getD x0 (Int.toNat v5) (ByteArray.empty, ByteArray.empty, ByteArray.empty, ()))))) == ByteArray.toList (g78_0 (x1 + 1 + 1))) = true then (ds = [Dyn.mk (Ty.int IntKind.i64) (-1)]) else ((InR IntKind.i64 (x1 + 1 + 1 + 1)) ∧ ((InR IntKind.i64 (v5 + 1)) ∧ (R25_2 n (v5 + 1) (x0) (x1 + 1 + 1 + 1) ds))))))))))) else (ds = [Dyn.mk (Ty.int IntKind.i64) x1]))
end
theorem p25_0 (x0 : List (ByteArray × ByteArray × ByteArray × Unit)) (x1 : Int) : Am.runN tab ext25 false 43 [] 2000 [] [] [0, 1, 5] [] [] [.code b25] (entE 0 0 sig25 (x0, x1, ())) (entL sig25 (x0, x1, ())) = some (cutAt b25 2, E25_2 (0) (x0) (x1), L25_2 (0) (x0) (x1), []) := by kernel_rfl
theorem p25_1 (v5 : Int) (x0 : List (ByteArray × ByteArray × ByteArray × Unit)) (x1 : Int) : runF tab ext25 false 43 [] 2000 [] tys25 Tryd.f25.results [true, true] (cutAt b25 2) (E25_2 v5 x0 x1) (L25_2 v5 x0 x1) = some ([Dyn.mk (Ty.int IntKind.i64) (-1)], [], [Decidable.decide (v5 < (↑(List.length x0) : Int)) = Bool.true, 0 ≤ v5, v5 < (↑(List.length x0) : Int), True, (!ByteArray.toList (Prod.fst (List.getD x0 (Int.toNat v5) (ByteArray.empty, ByteArray.empty, ByteArray.empty, ()))) == ByteArray.toList (g78_0 x1)) = Bool.true]) := by kernel_rfl
theorem p25_2 (v5 : Int) (x0 : List (ByteArray × ByteArray × ByteArray × Unit)) (x1 : Int) : runF tab ext25 false 43 [] 2000 [] tys25 Tryd.f25.results [true, false, true] (cutAt b25 2) (E25_2 v5 x0 x1) (L25_2 v5 x0 x1) = some ([Dyn.mk (Ty.int IntKind.i64) (-1)], [], [Decidable.decide (v5 < (↑(List.length x0) : Int)) = Bool.true, 0 ≤ v5, v5 < (↑(List.length x0) : Int), True, (!ByteArray.toList (Prod.fst (List.getD x0 (Int.toNat v5) (ByteArray.empty, ByteArray.empty, ByteArray.empty, ()))) == ByteArray.toList (g78_0 x1)) = Bool.false, InR IntKind.i64 (x1 + 1), 0 ≤ v5, v5 < (↑(List.length x0) : Int), True, (!ByteArray.toList (Prod.fst (Prod.snd (List.getD x0 (Int.toNat v5) (ByteArray.empty, ByteArray.empty, ByteArray.empty, ())))) == ByteArray.toList (g78_0 (x1 + 1))) = Bool.true]) := by kernel_rfl
theorem p25_3 (v5 : Int) (x0 : List (ByteArray × ByteArray × ByteArray × Unit)) (x1 : Int) : runF tab ext25 false 43 [] 2000 [] tys25 Tryd.f25.results [true, false, false, true] (cutAt b25 2) (E25_2 v5 x0 x1) (L25_2 v5 x0 x1) = some ([Dyn.mk (Ty.int IntKind.i64) (-1)], [], [Decidable.decide (v5 < (↑(List.length x0) : Int)) = Bool.true, 0 ≤ v5, v5 < (↑(List.length x0) : Int), True, (!ByteArray.toList (Prod.fst (List.getD x0 (Int.toNat v5) (ByteArray.empty, ByteArray.empty, ByteArray.empty, ()))) == ByteArray.toList (g78_0 x1)) = Bool.false, InR IntKind.i64 (x1 + 1), 0 ≤ v5, v5 < (↑(List.length x0) : Int), True, (!ByteArray.toList (Prod.fst (Prod.snd (List.getD x0 (Int.toNat v5) (ByteArray.empty, ByteArray.empty, ByteArray.empty, ())))) == ByteArray.toList (g78_0 (x1 + 1))) = Bool.false, InR IntKind.i64 (x1 + 1 + 1), 0 ≤ v5, v5 < (↑(List.length x0) : Int), True, (!ByteArray.toList (Prod.fst (Prod.snd (Prod.snd (List.getD x0 (Int.toNat v5) (ByteArray.empty, ByteArray.empty, ByteArray.empty, ()))))) == ByteArray.toList (g78_0 (x1 + 1 + 1))) = Bool.true]) := by kernel_rfl
theorem p25_4 (v5 : Int) (x0 : List (ByteArray × ByteArray × ByteArray × Unit)) (x1 : Int) : Am.runN tab ext25 false 43 [] 2000 [] [] [0, 1, 5] [] [true, false, false, false] (cutAt b25 2) (E25_2 v5 x0 x1) (L25_2 v5 x0 x1) = some (cutAt b25 2, E25_2 (v5 + 1) (x0) (x1 + 1 + 1 + 1), L25_2 (v5 + 1) (x0) (x1 + 1 + 1 + 1), [Decidable.decide (v5 < (↑(List.length x0) : Int)) = Bool.true, 0 ≤ v5, v5 < (↑(List.length x0) : Int), True, (!ByteArray.toList (Prod.fst (List.getD x0 (Int.toNat v5) (ByteArray.empty, ByteArray.empty, ByteArray.empty, ()))) == ByteArray.toList (g78_0 x1)) = Bool.false, InR IntKind.i64 (x1 + 1), 0 ≤ v5, v5 < (↑(List.length x0) : Int), True, (!ByteArray.toList (Prod.fst (Prod.snd (List.getD x0 (Int.toNat v5) (ByteArray.empty, ByteArray.empty, ByteArray.empty, ())))) == ByteArray.toList (g78_0 (x1 + 1))) = Bool.false, InR IntKind.i64 (x1 + 1 + 1), 0 ≤ v5, v5 < (↑(List.length x0) : Int), True, (!ByteArray.toList (Prod.fst (Prod.snd (Prod.snd (List.getD x0 (Int.toNat v5) (ByteArray.empty, ByteArray.empty, ByteArray.empty, ()))))) == ByteArray.toList (g78_0 (x1 + 1 + 1))) = Bool.false, InR IntKind.i64 (x1 + 1 + 1 + 1), InR IntKind.i64 (v5 + 1)]) := by kernel_rfl
theorem p25_5 (v5 : Int) (x0 : List (ByteArray × ByteArray × ByteArray × Unit)) (x1 : Int) : runF tab ext25 false 43 [] 2000 [] tys25 Tryd.f25.results [false] (cutAt b25 2) (E25_2 v5 x0 x1) (L25_2 v5 x0 x1) = some ([Dyn.mk (Ty.int IntKind.i64) x1], [], [Decidable.decide (v5 < (↑(List.length x0) : Int)) = Bool.false]) := by kernel_rfl
theorem snd25 : ∀ n, (∀ (x0 : List (ByteArray × ByteArray × ByteArray × Unit)) (x1 : Int) ds, R25 n x0 x1 ds → ∀ w0 O q, AtV Tryd.prog 25 (PostR ds [] [] q w0 O) 43 w0 O q [] [.code b25] (entE 0 0 sig25 (x0, x1, ())) (entL sig25 (x0, x1, ()))) ∧ (∀ (v5 : Int) (x0 : List (ByteArray × ByteArray × ByteArray × Unit)) (x1 : Int) ds, R25_2 n v5 x0 x1 ds → ∀ w0 O q, AtV Tryd.prog 25 (PostR ds [] [] q w0 O) 43 w0 O q [] (cutAt b25 2) (E25_2 v5 x0 x1) (L25_2 v5 x0 x1)) := by
  intro n
  induction n with
  | zero => exact ⟨fun _ _ _ h => by simp only [R25] at h, fun _ _ _ _ h => by simp only [R25_2] at h⟩
  | succ n ih =>
  obtain ⟨ih, ih2⟩ := ih
  refine ⟨?_, ?_⟩
  · intro x0 x1 ds h w0 O q
    rw [R25] at h
    exact AtV.runN tabOk ext25Ok mixed (p25_0 x0 x1) trivial (ih2 _ _ _ _ h w0 O q)

  · intro v5 x0 x1 ds h w0 O q
    rw [R25_2] at h
    by_cases b0 : (Decidable.decide (v5 < (↑(List.length x0) : Int))) = true
    · rw [if_pos b0] at h
      obtain ⟨s0, s1, h⟩ := h
      by_cases b1 : (!ByteArray.toList (Prod.fst (List.getD x0 (Int.toNat v5) (ByteArray.empty, ByteArray.empty, ByteArray.empty, ()))) == ByteArray.toList (g78_0 x1)) = true
      · rw [if_pos b1] at h
        subst h
        exact AtV.fin Tryd.func25 tabOk ext25Ok mixed (p25_1 v5 x0 x1) ⟨b0, s0, s1, trivial, b1, trivial⟩
      · rw [if_neg b1] at h
        replace b1 := Bool.eq_false_iff.2 b1
        obtain ⟨s2, h⟩ := h
        obtain ⟨s3, s4, h⟩ := h
        by_cases b2 : (!ByteArray.toList (Prod.fst (Prod.snd (List.getD x0 (Int.toNat v5) (ByteArray.empty, ByteArray.empty, ByteArray.empty, ())))) == ByteArray.toList (g78_0 (x1 + 1))) = true
        · rw [if_pos b2] at h
          subst h
          exact AtV.fin Tryd.func25 tabOk ext25Ok mixed (p25_2 v5 x0 x1) ⟨b0, s0, s1, trivial, b1, s2, s3, s4, trivial, b2, trivial⟩
        · rw [if_neg b2] at h
          replace b2 := Bool.eq_false_iff.2 b2
          obtain ⟨s5, h⟩ := h
          obtain ⟨s6, s7, h⟩ := h
          by_cases b3 : (!ByteArray.toList (Prod.fst (Prod.snd (Prod.snd (List.getD x0 (Int.toNat v5) (ByteArray.empty, ByteArray.empty, ByteArray.empty, ()))))) == ByteArray.toList (g78_0 (x1 + 1 + 1))) = true
          · rw [if_pos b3] at h
            subst h
            exact AtV.fin Tryd.func25 tabOk ext25Ok mixed (p25_3 v5 x0 x1) ⟨b0, s0, s1, trivial, b1, s2, s3, s4, trivial, b2, s5, s6, s7, trivial, b3, trivial⟩
          · rw [if_neg b3] at h
            replace b3 := Bool.eq_false_iff.2 b3
            obtain ⟨s8, h⟩ := h
            obtain ⟨s9, h⟩ := h
            exact AtV.runN tabOk ext25Ok mixed (p25_4 v5 x0 x1) ⟨b0, s0, s1, trivial, b1, s2, s3, s4, trivial, b2, s5, s6, s7, trivial, b3, s8, s9, trivial⟩ (ih2 _ _ _ _ h w0 O q)
    · rw [if_neg b0] at h
      replace b0 := Bool.eq_false_iff.2 b0
      subst h
      exact AtV.fin Tryd.func25 tabOk ext25Ok mixed (p25_5 v5 x0 x1) ⟨b0, trivial⟩



theorem run25 (x0 : List (ByteArray × ByteArray × ByteArray × Unit)) (x1 : Int) (hm : x0.length ≤ maxLen) (h0 : 0 ≤ x1) (h1 : x1 + 3 * x0.length ≤ 9223372036854775807) (he : ∀ i : Nat, i < x0.length → x0.getD i (ByteArray.empty, ByteArray.empty, ByteArray.empty, ()) = (g78_0 (x1 + 3 * (i : Int)), g78_0 (x1 + 3 * (i : Int) + 1), g78_0 (x1 + 3 * (i : Int) + 1 + 1), ())) : ∀ (k i : Nat), i + k = x0.length →
    R25_2 (k + 1) (i : Int) x0 (x1 + 3 * (i : Int)) [⟨.int .i64, x1 + 3 * (x0.length : Int)⟩] := by
  intro k
  induction k with
  | zero =>
    intro i hi
    rw [R25_2, if_neg (by simp; omega)]
    have : i = x0.length := by omega
    subst this
    rfl
  | succ k ih =>
    intro i hi
    rw [R25_2, if_pos (by simp; omega)]
    simp only [Int.toNat_natCast, he i (by omega)]
    have hb : ∀ y : ByteArray, (!(ByteArray.toList y == ByteArray.toList y)) = true → False := fun y h => by rw [(bytes_eq y y).2 rfl] at h; cases h
    refine ⟨by omega, by omega, ?_⟩
    rw [if_neg (hb _)]
    refine ⟨by rw [i64_iff]; omega, by omega, by omega, ?_⟩
    rw [if_neg (hb _)]
    refine ⟨by rw [i64_iff]; omega, by omega, by omega, ?_⟩
    rw [if_neg (hb _)]
    refine ⟨by rw [i64_iff]; omega, inR_up hm (by omega), ?_⟩
    have hx : x1 + 3 * (i : Int) + 1 + 1 + 1 = x1 + 3 * ((i + 1 : Nat) : Int) := by omega
    rw [hx]
    exact ih (i + 1) (by omega)

def P25 (x0 : List (ByteArray × ByteArray × ByteArray × Unit)) (x1 : Int) : Prop := (0 ≤ x1 ∧ x1 + 3 * x0.length ≤ 9223372036854775807) ∧ ∀ i : Nat, i < x0.length → x0.getD i (ByteArray.empty, ByteArray.empty, ByteArray.empty, ()) = (g78_0 (x1 + 3 * (i : Int)), g78_0 (x1 + 3 * (i : Int) + 1), g78_0 (x1 + 3 * (i : Int) + 1 + 1), ())
def g25_0 (x0 : List (ByteArray × ByteArray × ByteArray × Unit)) (x1 : Int) : Int := x1 + 3 * (x0.length : Int)

theorem top25 (x0 : List (ByteArray × ByteArray × ByteArray × Unit)) (x1 : Int) (hm : x0.length ≤ maxLen) (h : P25 x0 x1) : R25 (x0.length + 1 + 1) x0 x1 [⟨.int .i64, g25_0 x0 x1⟩] := by
  rw [R25]
  have := run25 x0 x1 hm h.1.1 h.1.2 h.2 x0.length 0 (by omega)
  simpa [g25_0] using this

def S25 : Am.Spec := { sig := sig25, pre := fun ⟨x0, x1, _⟩ => P25 x0 x1, res := fun ⟨x0, x1, _⟩ => [⟨.int .i64, g25_0 x0 x1⟩] }
theorem con25 : Contract Tryd.prog 25 S25 := contract_of Tryd.func25 hb25 (Nat.le_of_ble_eq_true (by kernel_rfl)) (fun ⟨x0, x1, _⟩ h hwf w0 O q =>
  (snd25 _).1 x0 x1 _ (top25 x0 x1 hwf.1.1 h) w0 O q)

end Go.Proofs.YtakodkjcmacofaaDoor

/- Function 5 (laws.FnExactBlocksOfChecks): its runs between cut points. Written by a program of this repo (gen). -/
set_option linter.unusedVariables false
set_option linter.unusedSimpArgs false
set_option maxRecDepth 100000
namespace Go.Proofs.YtakodkjcmacofaaDoor
open Go Go.Am Go.Proofs
def ext5 : Ext := [(17, S17), (19, S19), (18, S18), (20, S20), (21, S21), (22, S22), (23, S23), (24, S24), (25, S25)]
theorem call5_17 : Callable Tryd.prog 17 := ⟨Tryd.f17, Tryd.func17, by kernel_rfl, by kernel_rfl⟩
theorem call5_19 : Callable Tryd.prog 19 := ⟨Tryd.f19, Tryd.func19, by kernel_rfl, by kernel_rfl⟩
theorem call5_18 : Callable Tryd.prog 18 := ⟨Tryd.f18, Tryd.func18, by kernel_rfl, by kernel_rfl⟩
theorem call5_20 : Callable Tryd.prog 20 := ⟨Tryd.f20, Tryd.func20, by kernel_rfl, by kernel_rfl⟩
theorem call5_21 : Callable Tryd.prog 21 := ⟨Tryd.f21, Tryd.func21, by kernel_rfl, by kernel_rfl⟩
theorem call5_22 : Callable Tryd.prog 22 := ⟨Tryd.f22, Tryd.func22, by kernel_rfl, by kernel_rfl⟩
theorem call5_23 : Callable Tryd.prog 23 := ⟨Tryd.f23, Tryd.func23, by kernel_rfl, by kernel_rfl⟩
theorem call5_24 : Callable Tryd.prog 24 := ⟨Tryd.f24, Tryd.func24, by kernel_rfl, by kernel_rfl⟩
theorem call5_25 : Callable Tryd.prog 25 := ⟨Tryd.f25, Tryd.func25, by kernel_rfl, by kernel_rfl⟩
theorem ext5Ok : ExtOk Tryd.prog ext5 := ⟨⟨call5_17, con17⟩, ⟨call5_19, con19⟩, ⟨call5_18, con18⟩, ⟨call5_20, con20⟩, ⟨call5_21, con21⟩, ⟨call5_22, con22⟩, ⟨call5_23, con23⟩, ⟨call5_24, con24⟩, ⟨call5_25, con25⟩, trivial⟩
/-! Function 5. -/
noncomputable def b5 : Code := bodyOf Tryd.f5
theorem hb5 : Tryd.f5.body = some b5 := by kernel_rfl
def sig5 : List AT := [AT.v (Ty.sl (Ty.cons Ty.str (Ty.cons (Ty.int IntKind.i64) (Ty.cons (Ty.int IntKind.i64) (Ty.cons (Ty.int IntKind.i64) (Ty.cons (Ty.int IntKind.i64) Ty.unit))))))]
def tys5 : List Ty := [Ty.bool]
def P5 (x0 : List (ByteArray × Int × Int × Int × Int × Unit)) : Prop := ((P17 x0 1048576) ∧ (if (Decidable.decide (g17_0 x0 1048576 < 0)) = true then True else ((P19 x0) ∧ ((P18 (g19_0 x0)) ∧ ((P19 x0) ∧ ((P20 (g19_0 x0)) ∧ (if (!g21_0 (g20_0 (g19_0 x0)) (g18_0 (g19_0 x0))) = true then True else (if (g20_1 (g19_0 x0) != g18_1 (g19_0 x0)) = true then True else ((P19 x0) ∧ (if (!g22_0 (g19_0 x0) (g19_0 x0)) = true then True else ((P23 (g19_0 x0) 1) ∧ (List.length (u23_0 (g19_0 x0) 1) = List.length (g19_0 x0)) ∧ (if (Decidable.decide (g23_0 (g19_0 x0) 1 < 0)) = true then True else ((P24 (g20_0 (g19_0 x0)) 1) ∧ (List.length (u24_0 (g20_0 (g19_0 x0)) 1) = List.length (g20_0 (g19_0 x0))) ∧ ((P25 (u24_0 (g20_0 (g19_0 x0)) 1) 1) ∧ (if (Decidable.decide (g25_0 (u24_0 (g20_0 (g19_0 x0)) 1) 1 < 0)) = true then True else (if (g25_0 (u24_0 (g20_0 (g19_0 x0)) 1) 1 != g24_0 (g20_0 (g19_0 x0)) 1) = true then True else ((P19 x0) ∧ ((P20 (g19_0 x0)) ∧ ((P25 (u24_0 (g20_0 (g19_0 x0)) 1) 1) ∧ True)))))))))))))))))))
def g5_0 (x0 : List (ByteArray × Int × Int × Int × Int × Unit)) : Bool := (if (Decidable.decide (g17_0 x0 1048576 < 0)) = true then Bool.true else (if (!g21_0 (g20_0 (g19_0 x0)) (g18_0 (g19_0 x0))) = true then Bool.false else (if (g20_1 (g19_0 x0) != g18_1 (g19_0 x0)) = true then Bool.false else (if (!g22_0 (g19_0 x0) (g19_0 x0)) = true then Bool.false else (if (Decidable.decide (g23_0 (g19_0 x0) 1 < 0)) = true then Bool.false else (if (Decidable.decide (g25_0 (u24_0 (g20_0 (g19_0 x0)) 1) 1 < 0)) = true then Bool.false else (if (g25_0 (u24_0 (g20_0 (g19_0 x0)) 1) 1 != g24_0 (g20_0 (g19_0 x0)) 1) = true then Bool.false else Bool.true)))))))
theorem p5_0 (x0 : List (ByteArray × Int × Int × Int × Int × Unit)) : runF tab ext5 false 96 [] 2000 [] tys5 Tryd.f5.results [true] [.code b5] (entE 0 0 sig5 (x0, ())) (entL sig5 (x0, ())) = some ([Dyn.mk Ty.bool Bool.true], [], [P17 x0 1048576, Decidable.decide (g17_0 x0 1048576 < 0) = Bool.true]) := by kernel_rfl
theorem p5_1 (x0 : List (ByteArray × Int × Int × Int × Int × Unit)) : runF tab ext5 false 96 [] 2000 [] tys5 Tryd.f5.results [false, true, true] [.code b5] (entE 0 0 sig5 (x0, ())) (entL sig5 (x0, ())) = some ([Dyn.mk Ty.bool Bool.false], [], [P17 x0 1048576, Decidable.decide (g17_0 x0 1048576 < 0) = Bool.false, P19 x0, P18 (g19_0 x0), P19 x0, P20 (g19_0 x0), True, (!g21_0 (g20_0 (g19_0 x0)) (g18_0 (g19_0 x0))) = Bool.true, Bool.true = Bool.true]) := by kernel_rfl
theorem p5_2 (x0 : List (ByteArray × Int × Int × Int × Int × Unit)) : runF tab ext5 false 96 [] 2000 [] tys5 Tryd.f5.results [false, false, true] [.code b5] (entE 0 0 sig5 (x0, ())) (entL sig5 (x0, ())) = some ([Dyn.mk Ty.bool Bool.false], [], [P17 x0 1048576, Decidable.decide (g17_0 x0 1048576 < 0) = Bool.false, P19 x0, P18 (g19_0 x0), P19 x0, P20 (g19_0 x0), True, (!g21_0 (g20_0 (g19_0 x0)) (g18_0 (g19_0 x0))) = Bool.false, (g20_1 (g19_0 x0) != g18_1 (g19_0 x0)) = Bool.true]) := by kernel_rfl
theorem p5_3 (x0 : List (ByteArray × Int × Int × Int × Int × Unit)) : runF tab ext5 false 96 [] 2000 [] tys5 Tryd.f5.results [false, false, false, true] [.code b5] (entE 0 0 sig5 (x0, ())) (entL sig5 (x0, ())) = some ([Dyn.mk Ty.bool Bool.false], [], [P17 x0 1048576, Decidable.decide (g17_0 x0 1048576 < 0) = Bool.false, P19 x0, P18 (g19_0 x0), P19 x0, P20 (g19_0 x0), True, (!g21_0 (g20_0 (g19_0 x0)) (g18_0 (g19_0 x0))) = Bool.false, (g20_1 (g19_0 x0) != g18_1 (g19_0 x0)) = Bool.false, P19 x0, True, (!g22_0 (g19_0 x0) (g19_0 x0)) = Bool.true]) := by kernel_rfl
theorem p5_4 (x0 : List (ByteArray × Int × Int × Int × Int × Unit)) : runF tab ext5 false 96 [] 2000 [] tys5 Tryd.f5.results [false, false, false, false, true, true, true] [.code b5] (entE 0 0 sig5 (x0, ())) (entL sig5 (x0, ())) = some ([Dyn.mk Ty.bool Bool.false], [], [P17 x0 1048576, Decidable.decide (g17_0 x0 1048576 < 0) = Bool.false, P19 x0, P18 (g19_0 x0), P19 x0, P20 (g19_0 x0), True, (!g21_0 (g20_0 (g19_0 x0)) (g18_0 (g19_0 x0))) = Bool.false, (g20_1 (g19_0 x0) != g18_1 (g19_0 x0)) = Bool.false, P19 x0, True, (!g22_0 (g19_0 x0) (g19_0 x0)) = Bool.false, P23 (g19_0 x0) 1, List.length (u23_0 (g19_0 x0) 1) = List.length (g19_0 x0), Decidable.decide (g23_0 (g19_0 x0) 1 < 0) = Bool.true, Bool.true = Bool.true, Bool.true = Bool.true]) := by kernel_rfl
theorem p5_5 (x0 : List (ByteArray × Int × Int × Int × Int × Unit)) : runF tab ext5 false 96 [] 2000 [] tys5 Tryd.f5.results [false, false, false, false, false, false, false, true] [.code b5] (entE 0 0 sig5 (x0, ())) (entL sig5 (x0, ())) = some ([Dyn.mk Ty.bool Bool.false], [], [P17 x0 1048576, Decidable.decide (g17_0 x0 1048576 < 0) = Bool.false, P19 x0, P18 (g19_0 x0), P19 x0, P20 (g19_0 x0), True, (!g21_0 (g20_0 (g19_0 x0)) (g18_0 (g19_0 x0))) = Bool.false, (g20_1 (g19_0 x0) != g18_1 (g19_0 x0)) = Bool.false, P19 x0, True, (!g22_0 (g19_0 x0) (g19_0 x0)) = Bool.false, P23 (g19_0 x0) 1, List.length (u23_0 (g19_0 x0) 1) = List.length (g19_0 x0), Decidable.decide (g23_0 (g19_0 x0) 1 < 0) = Bool.false, True, (!g21_0 (g20_0 (g19_0 x0)) (g18_0 (g19_0 x0))) = Bool.false, (g20_1 (g19_0 x0) != g18_1 (g19_0 x0)) = Bool.false, P24 (g20_0 (g19_0 x0)) 1, List.length (u24_0 (g20_0 (g19_0 x0)) 1) = List.length (g20_0 (g19_0 x0)), P25 (u24_0 (g20_0 (g19_0 x0)) 1) 1, Decidable.decide (g25_0 (u24_0 (g20_0 (g19_0 x0)) 1) 1 < 0) = Bool.true]) := by kernel_rfl
theorem p5_6 (x0 : List (ByteArray × Int × Int × Int × Int × Unit)) : runF tab ext5 false 96 [] 2000 [] tys5 Tryd.f5.results [false, false, false, false, false, false, false, false, true] [.code b5] (entE 0 0 sig5 (x0, ())) (entL sig5 (x0, ())) = some ([Dyn.mk Ty.bool Bool.false], [], [P17 x0 1048576, Decidable.decide (g17_0 x0 1048576 < 0) = Bool.false, P19 x0, P18 (g19_0 x0), P19 x0, P20 (g19_0 x0), True, (!g21_0 (g20_0 (g19_0 x0)) (g18_0 (g19_0 x0))) = Bool.false, (g20_1 (g19_0 x0) != g18_1 (g19_0 x0)) = Bool.false, P19 x0, True, (!g22_0 (g19_0 x0) (g19_0 x0)) = Bool.false, P23 (g19_0 x0) 1, List.length (u23_0 (g19_0 x0) 1) = List.length (g19_0 x0), Decidable.decide (g23_0 (g19_0 x0) 1 < 0) = Bool.false, True, (!g21_0 (g20_0 (g19_0 x0)) (g18_0 (g19_0 x0))) = Bool.false, (g20_1 (g19_0 x0) != g18_1 (g19_0 x0)) = Bool.false, P24 (g20_0 (g19_0 x0)) 1, List.length (u24_0 (g20_0 (g19_0 x0)) 1) = List.length (g20_0 (g19_0 x0)), P25 (u24_0 (g20_0 (g19_0 x0)) 1) 1, Decidable.decide (g25_0 (u24_0 (g20_0 (g19_0 x0)) 1) 1 < 0) = Bool.false, (g25_0 (u24_0 (g20_0 (g19_0 x0)) 1) 1 != g24_0 (g20_0 (g19_0 x0)) 1) = Bool.true]) := by kernel_rfl
theorem p5_7 (x0 : List (ByteArray × Int × Int × Int × Int × Unit)) : runF tab ext5 false 96 [] 2000 [] tys5 Tryd.f5.results [false, false, false, false, false, false, false, false, false, false, false, false, false] [.code b5] (entE 0 0 sig5 (x0, ())) (entL sig5 (x0, ())) = some ([Dyn.mk Ty.bool Bool.true], [], [P17 x0 1048576, Decidable.decide (g17_0 x0 1048576 < 0) = Bool.false, P19 x0, P18 (g19_0 x0), P19 x0, P20 (g19_0 x0), True, (!g21_0 (g20_0 (g19_0 x0)) (g18_0 (g19_0 x0))) = Bool.false, (g20_1 (g19_0 x0) != g18_1 (g19_0 x0)) = Bool.false, P19 x0, True, (!g22_0 (g19_0 x0) (g19_0 x0)) = Bool.false, P23 (g19_0 x0) 1, List.length (u23_0 (g19_0 x0) 1) = List.length (g19_0 x0), Decidable.decide (g23_0 (g19_0 x0) 1 < 0) = Bool.false, True, (!g21_0 (g20_0 (g19_0 x0)) (g18_0 (g19_0 x0))) = Bool.false, (g20_1 (g19_0 x0) != g18_1 (g19_0 x0)) = Bool.false, P24 (g20_0 (g19_0 x0)) 1, List.length (u24_0 (g20_0 (g19_0 x0)) 1) = List.length (g20_0 (g19_0 x0)), P25 (u24_0 (g20_0 (g19_0 x0)) 1) 1, Decidable.decide (g25_0 (u24_0 (g20_0 (g19_0 x0)) 1) 1 < 0) = Bool.false, (g25_0 (u24_0 (g20_0 (g19_0 x0)) 1) 1 != g24_0 (g20_0 (g19_0 x0)) 1) = Bool.false, P19 x0, P20 (g19_0 x0), True, (!g21_0 (g20_0 (g19_0 x0)) (g18_0 (g19_0 x0))) = Bool.false, (g20_1 (g19_0 x0) != g18_1 (g19_0 x0)) = Bool.false, P25 (u24_0 (g20_0 (g19_0 x0)) 1) 1, Decidable.decide (g25_0 (u24_0 (g20_0 (g19_0 x0)) 1) 1 < 0) = Bool.false, (g25_0 (u24_0 (g20_0 (g19_0 x0)) 1) 1 != g24_0 (g20_0 (g19_0 x0)) 1) = Bool.false]) := by kernel_rfl
theorem at5 (x0 : List (ByteArray × Int × Int × Int × Int × Unit)) (h : P5 x0) (w0 : World) (O : List Nat) (q : Nat → Value) : AtV Tryd.prog 5 (PostR [⟨Ty.bool, g5_0 x0⟩] [] [] q w0 O) 96 w0 O q [] [.code b5] (entE 0 0 sig5 (x0, ())) (entL sig5 (x0, ())) := by
  unfold P5 at h
  unfold g5_0
  obtain ⟨s0, h⟩ := h
  by_cases b0 : (Decidable.decide (g17_0 x0 1048576 < 0)) = true
  · try simp only [if_pos b0] at h ⊢
    exact AtV.fin Tryd.func5 tabOk ext5Ok mixed (p5_0 x0) ⟨s0, b0, trivial⟩
  · try simp only [if_neg b0] at h ⊢
    replace b0 := Bool.eq_false_iff.2 b0
    obtain ⟨s1, h⟩ := h
    obtain ⟨s2, h⟩ := h
    obtain ⟨s3, h⟩ := h
    obtain ⟨s4, h⟩ := h
    by_cases b1 : (!g21_0 (g20_0 (g19_0 x0)) (g18_0 (g19_0 x0))) = true
    · try simp only [if_pos b1] at h ⊢
      exact AtV.fin Tryd.func5 tabOk ext5Ok mixed (p5_1 x0) ⟨s0, b0, s1, s2, s3, s4, trivial, b1, rfl, trivial⟩
    · try simp only [if_neg b1] at h ⊢
      replace b1 := Bool.eq_false_iff.2 b1
      by_cases b2 : (g20_1 (g19_0 x0) != g18_1 (g19_0 x0)) = true
      · try simp only [if_pos b2] at h ⊢
        exact AtV.fin Tryd.func5 tabOk ext5Ok mixed (p5_2 x0) ⟨s0, b0, s1, s2, s3, s4, trivial, b1, b2, trivial⟩
      · try simp only [if_neg b2] at h ⊢
        replace b2 := Bool.eq_false_iff.2 b2
        obtain ⟨s5, h⟩ := h
        by_cases b3 : (!g22_0 (g19_0 x0) (g19_0 x0)) = true
        · try simp only [if_pos b3] at h ⊢
          exact AtV.fin Tryd.func5 tabOk ext5Ok mixed (p5_3 x0) ⟨s0, b0, s1, s2, s3, s4, trivial, b1, b2, s5, trivial, b3, trivial⟩
        · try simp only [if_neg b3] at h ⊢
          replace b3 := Bool.eq_false_iff.2 b3
          obtain ⟨s6, s7, h⟩ := h
          by_cases b4 : (Decidable.decide (g23_0 (g19_0 x0) 1 < 0)) = true
          · try simp only [if_pos b4] at h ⊢
            exact AtV.fin Tryd.func5 tabOk ext5Ok mixed (p5_4 x0) ⟨s0, b0, s1, s2, s3, s4, trivial, b1, b2, s5, trivial, b3, s6, s7, b4, rfl, rfl, trivial⟩
          · try simp only [if_neg b4] at h ⊢
            replace b4 := Bool.eq_false_iff.2 b4
            obtain ⟨s8, s9, h⟩ := h
            obtain ⟨s10, h⟩ := h
            by_cases b5 : (Decidable.decide (g25_0 (u24_0 (g20_0 (g19_0 x0)) 1) 1 < 0)) = true
            · try simp only [if_pos b5] at h ⊢
              exact AtV.fin Tryd.func5 tabOk ext5Ok mixed (p5_5 x0) ⟨s0, b0, s1, s2, s3, s4, trivial, b1, b2, s5, trivial, b3, s6, s7, b4, trivial, b1, b2, s8, s9, s10, b5, trivial⟩
            · try simp only [if_neg b5] at h ⊢
              replace b5 := Bool.eq_false_iff.2 b5
              by_cases b6 : (g25_0 (u24_0 (g20_0 (g19_0 x0)) 1) 1 != g24_0 (g20_0 (g19_0 x0)) 1) = true
              · try simp only [if_pos b6] at h ⊢
                exact AtV.fin Tryd.func5 tabOk ext5Ok mixed (p5_6 x0) ⟨s0, b0, s1, s2, s3, s4, trivial, b1, b2, s5, trivial, b3, s6, s7, b4, trivial, b1, b2, s8, s9, s10, b5, b6, trivial⟩
              · try simp only [if_neg b6] at h ⊢
                replace b6 := Bool.eq_false_iff.2 b6
                obtain ⟨s11, h⟩ := h
                obtain ⟨s12, h⟩ := h
                obtain ⟨s13, h⟩ := h
                exact AtV.fin Tryd.func5 tabOk ext5Ok mixed (p5_7 x0) ⟨s0, b0, s1, s2, s3, s4, trivial, b1, b2, s5, trivial, b3, s6, s7, b4, trivial, b1, b2, s8, s9, s10, b5, b6, s11, s12, trivial, b1, b2, s13, b5, b6, trivial⟩

def S5 : Am.Spec := { sig := sig5, pre := fun ⟨x0, _⟩ => P5 x0, res := fun ⟨x0, _⟩ => [⟨Ty.bool, g5_0 x0⟩] }
theorem con5 : Contract Tryd.prog 5 S5 := contract_of Tryd.func5 hb5 (Nat.le_of_ble_eq_true (by kernel_rfl)) (fun ⟨x0, _⟩ h _ w0 O q => at5 x0 h w0 O q)


end Go.Proofs.YtakodkjcmacofaaDoor

/- A law that says how functions of the program and of the specification hang together. -/
set_option linter.unusedVariables false
set_option linter.unusedSimpArgs false
set_option maxRecDepth 100000
namespace Go.Proofs.YtakodkjcmacofaaDoor
open Go Go.Am Go.Proofs
theorem name_eq (s : ByteArray) : g151_0 s = g148_0 s := by
  have hs : ∀ c, g175_0 c = (decide (97 ≤ c) && decide (c ≤ 122)) := fun c => by
    unfold g175_0
    by_cases h1 : (97 : Int) ≤ c <;> simp [h1]
  have hd : ∀ c, g67_0 c = (decide (48 ≤ c) && decide (c ≤ 57)) := fun c => by
    unfold g67_0
    by_cases h1 : (48 : Int) ≤ c <;> simp [h1]
  unfold g151_0 g148_0
  have hl := bytesOf_length s
  by_cases h1 : 1 ≤ s.size
  · cases hb : bytesOf s with
    | nil => rw [hb] at hl; simp at hl; omega
    | cons c r =>
      have hr : allI ok151 1 r = r.all fun b => g175_0 b || g67_0 b := by
        rw [← allI_plain (fun b => g175_0 b || g67_0 b) r 1]
        refine allI_congr r 1 fun j x hj => ?_
        have : (j == 0) = false := by simp; omega
        simp only [ok151, this, hs, hd, Bool.not_false, Bool.true_and]
      have h0 : ok151 0 c = g175_0 c := by simp [ok151, hs]
      simp only [allI, hr, h0, List.all_cons, List.getD_cons_zero]
      cases g175_0 c <;> simp
  · simp [h1]


end Go.Proofs.YtakodkjcmacofaaDoor

/- A law that says how functions of the program and of the specification hang together. -/
set_option linter.unusedVariables false
set_option linter.unusedSimpArgs false
set_option maxRecDepth 100000
namespace Go.Proofs.YtakodkjcmacofaaDoor
open Go Go.Am Go.Proofs

theorem bl_asym {x y : List UInt8} (h : Op.bytesLess x y = true) : Op.bytesLess y x = false := by
  cases h2 : Op.bytesLess y x with
  | false => rfl
  | true =>
    have := bl_trans x y x h h2
    rw [bl_irrefl] at this
    cases this

theorem le_not (a b : ByteArray) : (!(Op.bytesLess (ByteArray.toList a) (ByteArray.toList b) || ByteArray.toList a == ByteArray.toList b)) = Op.bytesLess (ByteArray.toList b) (ByteArray.toList a) := by
  generalize ByteArray.toList a = x
  generalize ByteArray.toList b = y
  cases h1 : Op.bytesLess x y with
  | true => rw [bl_asym h1]; rfl
  | false =>
    cases h2 : (x == y) with
    | true =>
      have : x = y := by simpa using h2
      subst this
      rw [bl_irrefl]; rfl
    | false =>
      cases h3 : Op.bytesLess y x with
      | true => rfl
      | false =>
        have := bl_tri x y h1 h3
        subst this
        simp at h2

theorem allI_mem {α : Type} {p : Nat → α → Bool} : ∀ (l : List α) (i : Nat), allI p i l = true → ∀ x ∈ l, ∃ j, p j x = true
  | [], _, _, x, hx => by cases hx
  | y :: r, i, h, x, hx => by
    simp only [allI, Bool.and_eq_true] at h
    rcases List.mem_cons.1 hx with rfl | hx
    · exact ⟨i, h.1⟩
    · exact allI_mem r (i + 1) h.2 x hx

end Go.Proofs.YtakodkjcmacofaaDoor

/- A law that says how functions of the program and of the specification hang together. -/
set_option linter.unusedVariables false
set_option linter.unusedSimpArgs false
set_option maxRecDepth 100000
namespace Go.Proofs.YtakodkjcmacofaaDoor
open Go Go.Am Go.Proofs

theorem ap_tail : ∀ (r : List Int) (i : Nat) (o : ByteArray), 0 < i → ap126 i o r = ⟨⟨o.data.toList ++ Lib.joinTail [44] (r.map fun x => (g129_0 x).data.toList)⟩⟩
  | [], _, o, _ => by simp [ap126, Lib.joinTail]
  | x :: r, i, o, h => by
    unfold ap126
    rw [if_pos h, ap_tail r (i + 1) _ (by omega)]
    have e : (ByteArray.mk #[44]).data.toList = [44] := rfl
    simp [ByteArray.data_append, Lib.joinTail, e]

theorem list_eq {xs : List Int} (h0 : 0 < xs.length) (h1 : xs.length ≤ 64) (hv : ∀ x ∈ xs, g156_0 x = true) : g128_0 xs = g126_0 xs := by
  have hc : g154c155_0 xs = false := by
    rw [Bool.eq_false_iff]
    intro h
    have h' := (findIdx_any _ xs).1 (of_decide_eq_true h)
    obtain ⟨x, hx, hq⟩ := List.any_eq_true.1 h'
    have := hv x hx
    unfold g155_0 at hq
    rw [this] at hq
    cases hq
  unfold g128_0 g126_0
  rw [if_neg (by omega), hc, if_neg (by decide), if_neg (by omega), if_neg (by omega)]
  cases xs with
  | nil => simp at h0
  | cons x r =>
    unfold ap126
    rw [if_neg (by decide), ap_tail r _ _ (by decide)]
    unfold g157_0
    have e : (ByteArray.mk #[44]).data.toList = [44] := rfl
    rw [e, List.map_map, List.map_cons, Lib.join_cons]
    have e2 : (ByteArray.mk #[] ++ g129_0 x).data.toList = (g129_0 x).data.toList := by simp [ByteArray.data_append]
    rw [e2]
    rfl

theorem list_size {xs : List Int} (h1 : xs.length ≤ 64) (hx : ∀ x ∈ xs, InR .i64 x) : (g126_0 xs).size ≤ 2000 := by
  have key : ∀ (r : List Int) (i : Nat) (o : ByteArray), (∀ x ∈ r, InR .i64 x) → (ap126 i o r).size ≤ o.size + 22 * r.length := by
    intro r
    induction r with
    | nil => intro i o _; simp [ap126]
    | cons x r ih =>
      intro i o hx
      have hr := hx x (List.mem_cons_self ..)
      rw [i64_iff] at hr
      have hs : (g129_0 x).size ≤ 21 := numB_size _ (by omega) (by omega)
      have i44 : (ByteArray.mk #[44]).size = 1 := rfl
      unfold ap126
      refine Nat.le_trans (ih _ _ fun y hy => hx y (List.mem_cons_of_mem _ hy)) ?_
      rw [ByteArray.size_append, List.length_cons]
      split
      · rw [ByteArray.size_append, i44]; omega
      · omega
  unfold g126_0
  split
  · exact (show (1 : Nat) ≤ 2000 by decide)
  · have := key xs 0 (ByteArray.mk #[]) hx
    have i0 : (ByteArray.mk #[]).size = 0 := rfl
    omega

end Go.Proofs.YtakodkjcmacofaaDoor

/- A law that says how functions of the program and of the specification hang together. -/
set_option linter.unusedVariables false
set_option linter.unusedSimpArgs false
set_option maxRecDepth 100000
namespace Go.Proofs.YtakodkjcmacofaaDoor
open Go Go.Am Go.Proofs

theorem check_eq (x : (ByteArray × Int × Int × Int × Int × Unit)) : g127_0 x = g125_0 x := by
  unfold g127_0 g125_0
  rw [name_eq]
  rfl

theorem checks_eq (xs : List (ByteArray × Int × Int × Int × Int × Unit)) : g74_0 xs = g71_0 xs := by
  unfold g74_0 g71_0
  congr 1
  refine allI_congr xs 0 fun j y _ => ?_
  unfold ok74 ok71
  rw [check_eq, le_not]

theorem in_of {x a b : Int} (h : g124_0 x a b = true) : a ≤ x ∧ x ≤ b := by
  unfold g124_0 at h
  by_cases c1 : x ≥ a
  · by_cases c2 : x ≤ b
    · exact ⟨c1, c2⟩
    · simp [c1, c2] at h
  · simp [c1] at h
theorem of_in {x a b : Int} (h1 : a ≤ x) (h2 : x ≤ b) : g124_0 x a b = true := by
  unfold g124_0
  have c1 : x ≥ a := h1
  simp [c1, h2]

theorem check_parts {x : (ByteArray × Int × Int × Int × Int × Unit)} (h : g125_0 x = true) : (1 ≤ x.2.1 ∧ x.2.1 ≤ 100000) ∧ (1 ≤ x.2.2.1 ∧ x.2.2.1 ≤ 1000000) ∧ (0 ≤ x.2.2.2.1 ∧ x.2.2.2.1 ≤ 100000) ∧ (0 ≤ x.2.2.2.2.1 ∧ x.2.2.2.2.1 ≤ 1000000) := by
  unfold g125_0 at h
  split at h
  · split at h
    · rename_i h1
      split at h
      · rename_i h2
        split at h
        · rename_i h3
          exact ⟨in_of h1, in_of h2, in_of h3, in_of h⟩
        · cases h
      · cases h
    · cases h
  · cases h

theorem check_text {x : (ByteArray × Int × Int × Int × Int × Unit)} (h : g125_0 x = true) : g75_0 x = g72_0 x := by
  obtain ⟨h1, h2, h3, h4⟩ := check_parts h
  unfold g75_0 g72_0
  rw [check_eq, h]
  rw [list_eq (by simp) (by simp) (fun y hy => by
    simp only [List.mem_cons, List.mem_nil_iff, or_false] at hy
    refine of_in (x := y) (a := -1000000000000) (b := 1000000000000) ?_ ?_ <;> rcases hy with rfl | rfl | rfl | rfl <;> omega)]
  rfl

theorem check_pre (x : (ByteArray × Int × Int × Int × Int × Unit)) (hw : Wf (.cons .str (.cons (.int .i64) (.cons (.int .i64) (.cons (.int .i64) (.cons (.int .i64) .unit))))) x) (hs : x.1.size ≤ 1048576) : P75 x ∧ P72 x := by
  have hI : ∀ y ∈ [x.2.1, x.2.2.1, x.2.2.2.1, x.2.2.2.2.1], InR .i64 y := fun y hy => by
    simp only [List.mem_cons, List.mem_nil_iff, or_false] at hy
    rcases hy with rfl | rfl | rfl | rfl
    · exact hw.2.1
    · exact hw.2.2.1
    · exact hw.2.2.2.1
    · exact hw.2.2.2.2.1
  have hl := list_size (xs := [x.2.1, x.2.2.1, x.2.2.2.1, x.2.2.2.2.1]) (by simp) hI
  have i32 : (ByteArray.mk #[32]).size = 1 := rfl
  refine ⟨?_, ?_⟩
  · unfold P75
    split
    · trivial
    · rename_i hv
      have hv' : g125_0 x = true := by rw [← check_eq]; simpa using hv
      obtain ⟨h1, h2, h3, h4⟩ := check_parts hv'
      rw [list_eq (by simp) (by simp) (fun y hy => by
        simp only [List.mem_cons, List.mem_nil_iff, or_false] at hy
        refine of_in (x := y) (a := -1000000000000) (b := 1000000000000) ?_ ?_ <;> rcases hy with rfl | rfl | rfl | rfl <;> omega)]
      refine ⟨by omega, ?_, trivial⟩
      rw [ByteArray.size_append, i32]; omega
  · unfold P72
    refine ⟨by omega, ⟨by simp, hI⟩, ?_, trivial⟩
    rw [ByteArray.size_append, i32]; omega

theorem boc_eq (xs : List (ByteArray × Int × Int × Int × Int × Unit)) : g20_0 xs = g18_0 xs ∧ g20_1 xs = g18_1 xs := by
  unfold g20_0 g18_0 g20_1 g18_1
  rw [checks_eq]
  refine ⟨?_, rfl⟩
  split
  · rename_i h
    refine List.map_congr_left fun x hx => ?_
    unfold g71_0 at h
    simp only [Bool.and_eq_true] at h
    obtain ⟨j, hj⟩ := allI_mem _ _ h.1 x hx
    unfold ok71 at hj
    simp only [Bool.and_eq_true] at hj
    unfold blk20 blk18
    rw [check_text hj.1]
  · rfl

theorem boc_len (xs : List (ByteArray × Int × Int × Int × Int × Unit)) : (g18_0 xs).length ≤ xs.length := by
  unfold g18_0
  split
  · rw [List.length_map]; exact Nat.le_refl _
  · exact Nat.zero_le _

end Go.Proofs.YtakodkjcmacofaaDoor

/- A law that says how functions of the program and of the specification hang together. -/
set_option linter.unusedVariables false
set_option linter.unusedSimpArgs false
set_option maxRecDepth 100000
namespace Go.Proofs.YtakodkjcmacofaaDoor
open Go Go.Am Go.Proofs

theorem marked_check (xs : List (ByteArray × Int × Int × Int × Int × Unit)) (h : xs.length ≤ 1048576) : P23 xs 1 ∧ (u23_0 xs 1).length = xs.length ∧ ¬ g23_0 xs 1 < 0 := by
  have hl : (u23_0 xs 1).length = xs.length := by rw [u23_0, M23_len]
  refine ⟨⟨by omega, by omega⟩, hl, ?_⟩
  unfold g23_0
  omega

end Go.Proofs.YtakodkjcmacofaaDoor

/- A law that says how functions of the program and of the specification hang together. -/
set_option linter.unusedVariables false
set_option linter.unusedSimpArgs false
set_option maxRecDepth 100000
namespace Go.Proofs.YtakodkjcmacofaaDoor
open Go Go.Am Go.Proofs

theorem marked_blk (xs : List (ByteArray × ByteArray × ByteArray × Unit)) (h : xs.length ≤ 1048576) : P24 xs 1 ∧ (u24_0 xs 1).length = xs.length ∧ ¬ g24_0 xs 1 < 0 := by
  have hl : (u24_0 xs 1).length = xs.length := by rw [u24_0, M24_len]
  refine ⟨⟨by omega, by omega⟩, hl, ?_⟩
  unfold g24_0
  omega

theorem marked2_blk (xs ys : List (ByteArray × ByteArray × ByteArray × Unit)) (h : xs.length + ys.length ≤ 1048576) : P24 ys (g24_0 xs 1) ∧ (u24_0 ys (g24_0 xs 1)).length = ys.length ∧ ¬ g24_0 ys (g24_0 xs 1) < 0 := by
  have hl : (u24_0 ys (g24_0 xs 1)).length = ys.length := by rw [u24_0, M24_len]
  refine ⟨⟨?_, ?_⟩, hl, ?_⟩ <;> unfold g24_0 <;> omega

end Go.Proofs.YtakodkjcmacofaaDoor

/- A law that says how functions of the program and of the specification hang together. -/
set_option linter.unusedVariables false
set_option linter.unusedSimpArgs false
set_option maxRecDepth 100000
namespace Go.Proofs.YtakodkjcmacofaaDoor
open Go Go.Am Go.Proofs

theorem held_blk (xs : List (ByteArray × ByteArray × ByteArray × Unit)) (h : xs.length ≤ 1048576) : P25 (u24_0 xs 1) 1 ∧ g25_0 (u24_0 xs 1) 1 = g24_0 xs 1 := by
  have hl : (u24_0 xs 1).length = xs.length := by rw [u24_0, M24_len]
  refine ⟨⟨⟨by omega, by rw [hl]; omega⟩, fun i hi => ?_⟩, ?_⟩
  · rw [hl] at hi
    rw [getD_lt _ _ _ (by rw [hl]; exact hi)]
    simp [u24_0, M24]
  · unfold g25_0 g24_0
    rw [hl]

end Go.Proofs.YtakodkjcmacofaaDoor

/- The plain law of FnExactBlocksOfChecks. -/
set_option linter.unusedVariables false
set_option linter.unusedSimpArgs false
set_option maxRecDepth 100000
namespace Go.Proofs.YtakodkjcmacofaaDoor
open Go Go.Am Go.Proofs

theorem sz_mem : ∀ (xs : List (ByteArray × Int × Int × Int × Int × Unit)) (l : Int), 0 ≤ l → InR .i64 l → (∀ x ∈ xs, Wf (.cons .str (.cons (.int .i64) (.cons (.int .i64) (.cons (.int .i64) (.cons (.int .i64) .unit))))) x) → ¬ szL17 xs l < 0 → ∀ x ∈ xs, (x.1.size : Int) ≤ l
  | [], _, _, _, _, _, x, hx => by cases hx
  | y :: r, l, h0, hi, hw, h, x, hx => by
    obtain ⟨a1, a2, a3⟩ := sz70 y l h0 hi (hw y (List.mem_cons_self ..))
    rw [i64_iff] at hi
    simp only [szL17] at h
    split at h
    · omega
    · rename_i hn
      rcases List.mem_cons.1 hx with rfl | hx
      · have h1 : x.1.size ≤ 9223372036854775807 := (hw x (List.mem_cons_self ..)).1
        unfold g70_0 at hn a3
        simp only [decide_eq_true_eq] at hn a3
        split at hn
        · omega
        · rename_i hc
          omega
      · have := sz_mem r _ (by omega) (by rw [i64_iff]; omega) (fun z hz => hw z (List.mem_cons_of_mem _ hz)) h x hx
        omega

theorem law5 (x : List (ByteArray × Int × Int × Int × Int × Unit)) (hw : Wf (.sl (.cons .str (.cons (.int .i64) (.cons (.int .i64) (.cons (.int .i64) (.cons (.int .i64) .unit)))))) x) : P5 x ∧ g5_0 x = true := by
  unfold P5 g5_0
  have hz : P17 x 1048576 := (show (0 : Int) ≤ 1048576 from by decide)
  by_cases h : g17_0 x 1048576 < 0
  · simp only [h, hz, decide_true, if_true, and_true]
  · have hs := g17_le x 1048576 (by decide) (by decide) hw h
    have hp : P19 x := by
      show 48 * (x.length : Int) ≤ 281474976710656
      omega
    have hsm : ∀ y ∈ x, y.1.size ≤ 1048576 := by
      intro y hy
      unfold g17_0 at h
      split at h
      · omega
      · have := sz_mem x _ (by omega) (by rw [i64_iff]; omega) hw.2 h y hy
        omega
    have p1 : P18 x := fun y hy => (check_pre y (hw.2 y hy) (hsm y hy)).2
    have p2 : P20 x := fun y hy => (check_pre y (hw.2 y hy) (hsm y hy)).1
    obtain ⟨e0, e1⟩ := boc_eq x
    have hl := boc_len x
    obtain ⟨b1, b2, b3⟩ := marked_check x (by omega)
    obtain ⟨c1, c2, c3⟩ := marked_blk (g18_0 x) (by omega)
    obtain ⟨d1, d2⟩ := held_blk (g18_0 x) (by omega)
    simp only [h, decide_false, Bool.false_eq_true, if_false, g19_0, e0, e1, p1, p2, g21_0, g22_0, decide_true, Bool.not_true, bne_self_eq_false, beq_self_eq_true, b1, b2, b3, c1, c2, c3, d1, d2, hp, hz, true_and, and_self]

end Go.Proofs.YtakodkjcmacofaaDoor
