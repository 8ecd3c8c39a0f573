/- Several texts in one: the functions that this law reaches, and their laws. -/
import Derived.Test.YtjkeinpcphkfbaaZ13A
import Derived.Test.YtjkeinpcphkfbaaZ13B
import Derived.Test.YtjkeinpcphkfbaaZ13C
import Derived.Lib.IndexAny
import Derived.Lib.IndexMore

/- Function 47 (laws.markBlockS): its runs between cut points. Written by a program of this repo (gen). -/
set_option linter.unusedVariables false
set_option linter.unusedSimpArgs false
set_option maxRecDepth 100000
namespace Go.Proofs.Ytjkeinpcphkfbaa
open Go Go.Am Go.Proofs
def ext47 : Ext := [(72, S72)]
theorem call47_72 : Callable Try.prog 72 := ⟨Try.f72, Try.func72, by kernel_rfl, by kernel_rfl⟩
theorem ext47Ok : ExtOk Try.prog ext47 := ⟨⟨call47_72, con72⟩, trivial⟩
/-! Function 47. -/
noncomputable def b47 : Code := bodyOf Try.f47
theorem hb47 : Try.f47.body = some b47 := by kernel_rfl
def sig47 : List AT := [AT.own (Ty.cons Ty.str (Ty.cons Ty.str (Ty.cons Ty.str Ty.unit))), AT.v (Ty.int IntKind.i64)]
def tys47 : List Ty := [Ty.int IntKind.i64]
def E47_2 (v5 : Int) (x1 : Int) (x0 : List (ByteArray × ByteArray × ByteArray × Unit)) : Env := [(0, PV.a (Atom.osl 0 Option.none)), (1, PV.a (Atom.val (Value.int IntKind.i64 x1))), (5, PV.a (Atom.val (Value.int IntKind.i64 v5)))]
def L47_2 (v5 : Int) (x1 : Int) (x0 : List (ByteArray × ByteArray × ByteArray × Unit)) : Heap := [Option.some (Arr.mk (Ty.cons Ty.str (Ty.cons Ty.str (Ty.cons Ty.str Ty.unit))) x0 Bool.false)]
mutual
def R47 : Nat → List (ByteArray × ByteArray × ByteArray × Unit) → Int → List Dyn → List (Option Lst) → Prop
  | 0, _, _, _, _ => False
  | n + 1, x0, x1, ds, us => (R47_2 n (0) (x1) (x0) ds us)
def R47_2 : Nat → Int → Int → List (ByteArray × ByteArray × ByteArray × Unit) → List Dyn → List (Option Lst) → Prop
  | 0, _, _, _, _, _ => False
  | n + 1, v5, x1, x0, ds, us => (if (Decidable.decide (v5 < (↑(List.length x0) : Int))) = true then ((0 ≤ v5) ∧ (v5 < (↑(List.length x0) : Int)) ∧ ((InR IntKind.i64 (x1 + 1)) ∧ ((0 ≤ v5) ∧ (v5 < (↑(List.length (List.set x0 (Int.toNat v5) (g72_0 x1, Prod.snd (List.getD x0 (Int.toNat v5) (ByteArray.empty, ByteArray.empty, ByteArray.empty, ()))))) : Int)) ∧ ((InR IntKind.i64 (x1 + 1 + 1)) ∧ ((0 ≤ v5) ∧ (v5 < (↑(List.length (List.set (List.set x0 (Int.toNat v5) (g72_0 x1, Prod.snd (List.getD x0 (Int.toNat v5) (ByteArray.empty, ByteArray.empty, ByteArray.empty, ())))) (Int.toNat v5) (Prod.fst (List.getD (List.set x0 (Int.toNat v5) (g72_0 x1, Prod.snd (List.getD x0 (Int.toNat v5) (ByteArray.empty, ByteArray.empty, ByteArray.empty, ())))) (Int.toNat v5) (ByteArray.empty, ByteArray.empty, ByteArray.empty, ())), g72_0 (x1 + 1), Prod.snd (Prod.snd (List.getD (List.set x0 (Int.toNat v5) (g72_0 x1, Prod.snd (List.getD x0 (Int.toNat v5) (ByteArray.empty, ByteArray.empty, ByteArray.empty, ())))) (Int.toNat v5) (ByteArray.empty, ByteArray.empty, ByteArray.empty, ())))))) : Int)) ∧ ((InR IntKind.i64 (x1 + 1 + 1 + 1)) ∧ ((InR IntKind.i64 (v5 + 1)) ∧ (R47_2 n (v5 + 1) (x1 + 1 + 1 + 1) (List.set (List.set (List.set x0 (Int.toNat v5) (g72_0 x1, Prod.snd (List.getD x0 (Int.toNat v5) (ByteArray.empty, ByteArray.empty, ByteArray.empty, ())))) (Int.toNat v5) (Prod.fst (List.getD (List.set x0 (Int.toNat v5) (g72_0 x1, Prod.snd (List.getD x0 (Int.toNat v5) (ByteArray.empty, ByteArray.empty, ByteArray.empty, ())))) (Int.toNat v5) (ByteArray.empty, ByteArray.empty, ByteArray.empty, ())), g72_0 (x1 + 1), Prod.snd (Prod.snd (List.getD (List.set x0 (Int.toNat v5) (g72_0 x1, Prod.snd (List.getD x0 (Int.toNat v5) (ByteArray.empty, ByteArray.empty, ByteArray.empty, ())))) (Int.toNat v5) (ByteArray.empty, ByteArray.empty, ByteArray.empty, ()))))) (Int.toNat v5) (Prod.fst (List.getD (List.set (List.set x0 (Int.toNat v5) (g72_0 x1, Prod.snd (List.getD x0 (Int.toNat v5) (ByteArray.empty, ByteArray.empty, ByteArray.empty, ())))) (Int.toNat v5) (Prod.fst (List.getD (List.set x0 (Int.toNat v5) (g72_0 x1, Prod.snd (List.getD x0 (Int.toNat v5) (ByteArray.empty, ByteArray.empty, ByteArray.empty, ())))) (Int.toNat v5) (ByteArray.empty, ByteArray.empty, ByteArray.empty, ())), g72_0 (x1 + 1), Prod.snd (Prod.snd (List.getD (List.set x0 (Int.toNat v5) (g72_0 x1, Prod.snd (List.getD x0 (Int.toNat v5) (ByteArray.empty, ByteArray.empty, ByteArray.empty, ())))) (Int.toNat v5) (ByteArray.empty, ByteArray.empty, ByteArray.empty, ()))))) (Int.toNat v5) (ByteArray.empty, ByteArray.empty, ByteArray.empty, ())), Prod.fst (Prod.snd (List.getD (List.set (List.set x0 (Int.toNat v5) (g72_0 x1, Prod.snd (List.getD x0 (Int.toNat v5) (ByteArray.empty, ByteArray.empty, ByteArray.empty, ())))) (Int.toNat v5) (Prod.fst (List.getD (List.set x0 (Int.toNat v5) (g72_0 x1, Prod.snd (List.getD x0 (Int.toNat v5) (ByteArray.empty, ByteArray.empty, ByteArray.empty, ())))) (Int.toNat v5) (ByteArray.empty, ByteArray.empty, ByteArray.empty, ())), g72_0 (x1 + 1), Prod.snd (Prod.snd (List.getD (List.set x0 (Int.toNat v5) (g72_0 x1, Prod.snd (List.getD x0 (Int.toNat v5) (ByteArray.empty, ByteArray.empty, ByteArray.empty, ())))) (Int.toNat v5) (ByteArray.empty, ByteArray.empty, ByteArray.empty, ()))))) (Int.toNat v5) (ByteArray.empty, ByteArray.empty, ByteArray.empty, ()))), g72_0 (x1 + 1 + 1), Prod.snd (Prod.snd (Prod.snd (List.getD (List.set (List.set x0 (Int.toNat v5) (g72_0 x1, Prod.snd (List.getD x0 (Int.toNat v5) (ByteArray.empty, ByteArray.empty, ByteArray.empty, ())))) (Int.toNat v5) (Prod.fst (List.getD (List.set x0 (Int.toNat v5) (g72_0 x1, Prod.snd (List.getD x0 (Int.toNat v5) (ByteArray.empty, ByteArray.empty, ByteArray.empty, ())))) (Int.toNat v5) (ByteArray.empty, ByteArray.empty, ByteArray.empty, ())), g72_0 (x1 + 1), Prod.snd (Prod.snd (List.getD (List.set x0 (Int.toNat v5) (g72_0 x1, Prod.snd (List.getD x0 (Int.toNat v5) (ByteArray.empty, ByteArray.empty, ByteArray.empty, ())))) (Int.toNat v5) (ByteArray.empty, ByteArray.empty, ByteArray.empty, ()))))) (Int.toNat v5) (ByteArray.empty, ByteArray.empty, ByteArray.empty, ())))))) ds us)))))))) else (ds = [Dyn.mk (Ty.int IntKind.i64) x1] ∧ us = [Option.some (Lst.mk (Ty.cons Ty.str (Ty.cons Ty.str (Ty.cons Ty.str Ty.unit))) x0)]))
end
theorem p47_0 (x0 : List (ByteArray × ByteArray × ByteArray × Unit)) (x1 : Int) : Am.runN tab ext47 false 37 [] 2000 [0] [] [0, 1, 5] [0] [] [.code b47] (entE 0 0 sig47 (x0, x1, ())) (entL sig47 (x0, x1, ())) = some (cutAt b47 2, E47_2 (0) (x1) (x0), L47_2 (0) (x1) (x0), []) := by kernel_rfl
theorem p47_1 (v5 : Int) (x1 : Int) (x0 : List (ByteArray × ByteArray × ByteArray × Unit)) : Am.runN tab ext47 false 37 [] 2000 [0] [] [0, 1, 5] [0] [true] (cutAt b47 2) (E47_2 v5 x1 x0) (L47_2 v5 x1 x0) = some (cutAt b47 2, E47_2 (v5 + 1) (x1 + 1 + 1 + 1) (List.set (List.set (List.set x0 (Int.toNat v5) (g72_0 x1, Prod.snd (List.getD x0 (Int.toNat v5) (ByteArray.empty, ByteArray.empty, ByteArray.empty, ())))) (Int.toNat v5) (Prod.fst (List.getD (List.set x0 (Int.toNat v5) (g72_0 x1, Prod.snd (List.getD x0 (Int.toNat v5) (ByteArray.empty, ByteArray.empty, ByteArray.empty, ())))) (Int.toNat v5) (ByteArray.empty, ByteArray.empty, ByteArray.empty, ())), g72_0 (x1 + 1), Prod.snd (Prod.snd (List.getD (List.set x0 (Int.toNat v5) (g72_0 x1, Prod.snd (List.getD x0 (Int.toNat v5) (ByteArray.empty, ByteArray.empty, ByteArray.empty, ())))) (Int.toNat v5) (ByteArray.empty, ByteArray.empty, ByteArray.empty, ()))))) (Int.toNat v5) (Prod.fst (List.getD (List.set (List.set x0 (Int.toNat v5) (g72_0 x1, Prod.snd (List.getD x0 (Int.toNat v5) (ByteArray.empty, ByteArray.empty, ByteArray.empty, ())))) (Int.toNat v5) (Prod.fst (List.getD (List.set x0 (Int.toNat v5) (g72_0 x1, Prod.snd (List.getD x0 (Int.toNat v5) (ByteArray.empty, ByteArray.empty, ByteArray.empty, ())))) (Int.toNat v5) (ByteArray.empty, ByteArray.empty, ByteArray.empty, ())), g72_0 (x1 + 1), Prod.snd (Prod.snd (List.getD (List.set x0 (Int.toNat v5) (g72_0 x1, Prod.snd (List.getD x0 (Int.toNat v5) (ByteArray.empty, ByteArray.empty, ByteArray.empty, ())))) (Int.toNat v5) (ByteArray.empty, ByteArray.empty, ByteArray.empty, ()))))) (Int.toNat v5) (ByteArray.empty, ByteArray.empty, ByteArray.empty, ())), Prod.fst (Prod.snd (List.getD (List.set (List.set x0 (Int.toNat v5) (g72_0 x1, Prod.snd (List.getD x0 (Int.toNat v5) (ByteArray.empty, ByteArray.empty, ByteArray.empty, ())))) (Int.toNat v5) (Prod.fst (List.getD (List.set x0 (Int.toNat v5) (g72_0 x1, Prod.snd (List.getD x0 (Int.toNat v5) (ByteArray.empty, ByteArray.empty, ByteArray.empty, ())))) (Int.toNat v5) (ByteArray.empty, ByteArray.empty, ByteArray.empty, ())), g72_0 (x1 + 1), Prod.snd (Prod.snd (List.getD (List.set x0 (Int.toNat v5) (g72_0 x1, Prod.snd (List.getD x0 (Int.toNat v5) (ByteArray.empty, ByteArray.empty, ByteArray.empty, ())))) (Int.toNat v5) (ByteArray.empty, ByteArray.empty, ByteArray.empty, ()))))) (Int.toNat v5) (ByteArray.empty, ByteArray.empty, ByteArray.empty, ()))), g72_0 (x1 + 1 + 1), Prod.snd (Prod.snd (Prod.snd (List.getD (List.set (List.set x0 (Int.toNat v5) (g72_0 x1, Prod.snd (List.getD x0 (Int.toNat v5) (ByteArray.empty, ByteArray.empty, ByteArray.empty, ())))) (Int.toNat v5) (Prod.fst (List.getD (List.set x0 (Int.toNat v5) (g72_0 x1, Prod.snd (List.getD x0 (Int.toNat v5) (ByteArray.empty, ByteArray.empty, ByteArray.empty, ())))) (Int.toNat v5) (ByteArray.empty, ByteArray.empty, ByteArray.empty, ())), g72_0 (x1 + 1), Prod.snd (Prod.snd (List.getD (List.set x0 (Int.toNat v5) (g72_0 x1, Prod.snd (List.getD x0 (Int.toNat v5) (ByteArray.empty, ByteArray.empty, ByteArray.empty, ())))) (Int.toNat v5) (ByteArray.empty, ByteArray.empty, ByteArray.empty, ()))))) (Int.toNat v5) (ByteArray.empty, ByteArray.empty, ByteArray.empty, ())))))), L47_2 (v5 + 1) (x1 + 1 + 1 + 1) (List.set (List.set (List.set x0 (Int.toNat v5) (g72_0 x1, Prod.snd (List.getD x0 (Int.toNat v5) (ByteArray.empty, ByteArray.empty, ByteArray.empty, ())))) (Int.toNat v5) (Prod.fst (List.getD (List.set x0 (Int.toNat v5) (g72_0 x1, Prod.snd (List.getD x0 (Int.toNat v5) (ByteArray.empty, ByteArray.empty, ByteArray.empty, ())))) (Int.toNat v5) (ByteArray.empty, ByteArray.empty, ByteArray.empty, ())), g72_0 (x1 + 1), Prod.snd (Prod.snd (List.getD (List.set x0 (Int.toNat v5) (g72_0 x1, Prod.snd (List.getD x0 (Int.toNat v5) (ByteArray.empty, ByteArray.empty, ByteArray.empty, ())))) (Int.toNat v5) (ByteArray.empty, ByteArray.empty, ByteArray.empty, ()))))) (Int.toNat v5) (Prod.fst (List.getD (List.set (List.set x0 (Int.toNat v5) (g72_0 x1, Prod.snd (List.getD x0 (Int.toNat v5) (ByteArray.empty, ByteArray.empty, ByteArray.empty, ())))) (Int.toNat v5) (Prod.fst (List.getD (List.set x0 (Int.toNat v5) (g72_0 x1, Prod.snd (List.getD x0 (Int.toNat v5) (ByteArray.empty, ByteArray.empty, ByteArray.empty, ())))) (Int.toNat v5) (ByteArray.empty, ByteArray.empty, ByteArray.empty, ())), g72_0 (x1 + 1), Prod.snd (Prod.snd (List.getD (List.set x0 (Int.toNat v5) (g72_0 x1, Prod.snd (List.getD x0 (Int.toNat v5) (ByteArray.empty, ByteArray.empty, ByteArray.empty, ())))) (Int.toNat v5) (ByteArray.empty, ByteArray.empty, ByteArray.empty, ()))))) (Int.toNat v5) (ByteArray.empty, ByteArray.empty, ByteArray.empty, ())), Prod.fst (Prod.snd (List.getD (List.set (List.set x0 (Int.toNat v5) (g72_0 x1, Prod.snd (List.getD x0 (Int.toNat v5) (ByteArray.empty, ByteArray.empty, ByteArray.empty, ())))) (Int.toNat v5) (Prod.fst (List.getD (List.set x0 (Int.toNat v5) (g72_0 x1, Prod.snd (List.getD x0 (Int.toNat v5) (ByteArray.empty, ByteArray.empty, ByteArray.empty, ())))) (Int.toNat v5) (ByteArray.empty, ByteArray.empty, ByteArray.empty, ())), g72_0 (x1 + 1), Prod.snd (Prod.snd (List.getD (List.set x0 (Int.toNat v5) (g72_0 x1, Prod.snd (List.getD x0 (Int.toNat v5) (ByteArray.empty, ByteArray.empty, ByteArray.empty, ())))) (Int.toNat v5) (ByteArray.empty, ByteArray.empty, ByteArray.empty, ()))))) (Int.toNat v5) (ByteArray.empty, ByteArray.empty, ByteArray.empty, ()))), g72_0 (x1 + 1 + 1), Prod.snd (Prod.snd (Prod.snd (List.getD (List.set (List.set x0 (Int.toNat v5) (g72_0 x1, Prod.snd (List.getD x0 (Int.toNat v5) (ByteArray.empty, ByteArray.empty, ByteArray.empty, ())))) (Int.toNat v5) (Prod.fst (List.getD (List.set x0 (Int.toNat v5) (g72_0 x1, Prod.snd (List.getD x0 (Int.toNat v5) (ByteArray.empty, ByteArray.empty, ByteArray.empty, ())))) (Int.toNat v5) (ByteArray.empty, ByteArray.empty, ByteArray.empty, ())), g72_0 (x1 + 1), Prod.snd (Prod.snd (List.getD (List.set x0 (Int.toNat v5) (g72_0 x1, Prod.snd (List.getD x0 (Int.toNat v5) (ByteArray.empty, ByteArray.empty, ByteArray.empty, ())))) (Int.toNat v5) (ByteArray.empty, ByteArray.empty, ByteArray.empty, ()))))) (Int.toNat v5) (ByteArray.empty, ByteArray.empty, ByteArray.empty, ())))))), [Decidable.decide (v5 < (↑(List.length x0) : Int)) = Bool.true, True, 0 ≤ v5, v5 < (↑(List.length x0) : Int), InR IntKind.i64 (x1 + 1), True, 0 ≤ v5, v5 < (↑(List.length (List.set x0 (Int.toNat v5) (g72_0 x1, Prod.snd (List.getD x0 (Int.toNat v5) (ByteArray.empty, ByteArray.empty, ByteArray.empty, ()))))) : Int), InR IntKind.i64 (x1 + 1 + 1), True, 0 ≤ v5, v5 < (↑(List.length (List.set (List.set x0 (Int.toNat v5) (g72_0 x1, Prod.snd (List.getD x0 (Int.toNat v5) (ByteArray.empty, ByteArray.empty, ByteArray.empty, ())))) (Int.toNat v5) (Prod.fst (List.getD (List.set x0 (Int.toNat v5) (g72_0 x1, Prod.snd (List.getD x0 (Int.toNat v5) (ByteArray.empty, ByteArray.empty, ByteArray.empty, ())))) (Int.toNat v5) (ByteArray.empty, ByteArray.empty, ByteArray.empty, ())), g72_0 (x1 + 1), Prod.snd (Prod.snd (List.getD (List.set x0 (Int.toNat v5) (g72_0 x1, Prod.snd (List.getD x0 (Int.toNat v5) (ByteArray.empty, ByteArray.empty, ByteArray.empty, ())))) (Int.toNat v5) (ByteArray.empty, ByteArray.empty, ByteArray.empty, ())))))) : Int), InR IntKind.i64 (x1 + 1 + 1 + 1), InR IntKind.i64 (v5 + 1)]) := by kernel_rfl
theorem p47_2 (v5 : Int) (x1 : Int) (x0 : List (ByteArray × ByteArray × ByteArray × Unit)) : runF tab ext47 false 37 [] 2000 [0] tys47 Try.f47.results [false] (cutAt b47 2) (E47_2 v5 x1 x0) (L47_2 v5 x1 x0) = some ([Dyn.mk (Ty.int IntKind.i64) x1], [Option.some (Lst.mk (Ty.cons Ty.str (Ty.cons Ty.str (Ty.cons Ty.str Ty.unit))) x0)], [Decidable.decide (v5 < (↑(List.length x0) : Int)) = Bool.false]) := by kernel_rfl
theorem snd47 : ∀ n, (∀ (x0 : List (ByteArray × ByteArray × ByteArray × Unit)) (x1 : Int) ds us, R47 n x0 x1 ds us → ∀ w0 O q, AtV Try.prog 47 (PostR ds us [0] q w0 O) 37 w0 O q [0] [.code b47] (entE 0 0 sig47 (x0, x1, ())) (entL sig47 (x0, x1, ()))) ∧ (∀ (v5 : Int) (x1 : Int) (x0 : List (ByteArray × ByteArray × ByteArray × Unit)) ds us, R47_2 n v5 x1 x0 ds us → ∀ w0 O q, AtV Try.prog 47 (PostR ds us [0] q w0 O) 37 w0 O q [0] (cutAt b47 2) (E47_2 v5 x1 x0) (L47_2 v5 x1 x0)) := by
  intro n
  induction n with
  | zero => exact ⟨fun _ _ _ _ h => by simp only [R47] at h, fun _ _ _ _ _ h => by simp only [R47_2] at h⟩
  | succ n ih =>
  obtain ⟨ih, ih2⟩ := ih
  refine ⟨?_, ?_⟩
  · intro x0 x1 ds us h w0 O q
    rw [R47] at h
    exact AtV.runN tabOk ext47Ok mixed (p47_0 x0 x1) trivial (ih2 _ _ _ _ _ h w0 O q)

  · intro v5 x1 x0 ds us h w0 O q
    rw [R47_2] at h
    by_cases b0 : (Decidable.decide (v5 < (↑(List.length x0) : Int))) = true
    · rw [if_pos b0] at h
      obtain ⟨s0, s1, h⟩ := h
      obtain ⟨s2, h⟩ := h
      obtain ⟨s3, s4, h⟩ := h
      obtain ⟨s5, h⟩ := h
      obtain ⟨s6, s7, h⟩ := h
      obtain ⟨s8, h⟩ := h
      obtain ⟨s9, h⟩ := h
      exact AtV.runN tabOk ext47Ok mixed (p47_1 v5 x1 x0) ⟨b0, trivial, s0, s1, s2, trivial, s3, s4, s5, trivial, s6, s7, s8, s9, trivial⟩ (ih2 _ _ _ _ _ h w0 O q)
    · rw [if_neg b0] at h
      replace b0 := Bool.eq_false_iff.2 b0
      obtain ⟨h, h'⟩ := h; subst h; subst h'
      exact AtV.fin Try.func47 tabOk ext47Ok mixed (p47_2 v5 x1 x0) ⟨b0, trivial⟩



def M47 (x1 : Int) (n : Nat) : List (ByteArray × ByteArray × ByteArray × Unit) := (List.range n).map fun (j : Nat) => (g72_0 (x1 + 3 * (j : Int)), g72_0 (x1 + 3 * (j : Int) + 1), g72_0 (x1 + 3 * (j : Int) + 1 + 1), ())

theorem M47_len (x1 : Int) (n : Nat) : (M47 x1 n).length = n := by simp [M47]

theorem M47_succ (x1 : Int) (n : Nat) : M47 x1 (n + 1) = M47 x1 n ++ [(g72_0 (x1 + 3 * (n : Int)), g72_0 (x1 + 3 * (n : Int) + 1), g72_0 (x1 + 3 * (n : Int) + 1 + 1), ())] := by
  simp [M47, List.range_succ]

theorem run47 (x0 : List (ByteArray × ByteArray × ByteArray × Unit)) (x1 : Int) (hm : x0.length ≤ maxLen) (h0 : 0 ≤ x1) (h1 : x1 + 3 * x0.length ≤ 9223372036854775807) : ∀ (k i : Nat), i + k = x0.length →
    R47_2 (k + 1) (i : Int) (x1 + 3 * (i : Int)) (M47 x1 i ++ x0.drop i) [⟨.int .i64, x1 + 3 * (x0.length : Int)⟩] [some ⟨(.cons .str (.cons .str (.cons .str .unit))), M47 x1 x0.length⟩] := by
  intro k
  induction k with
  | zero =>
    intro i hi
    have hl : (M47 x1 i ++ x0.drop i).length = x0.length := by simp [M47_len]; omega
    rw [R47_2, if_neg (by rw [hl]; simp; omega), drop_end x0 i (by omega), List.append_nil]
    have : i = x0.length := by omega
    subst this
    exact ⟨rfl, rfl⟩
  | succ k ih =>
    intro i hi
    have hl : (M47 x1 i ++ x0.drop i).length = x0.length := by simp [M47_len]; omega
    have hA := M47_len x1 i
    rw [R47_2, if_pos (by rw [hl]; simp; omega)]
    rw [drop_get x0 i (ByteArray.empty, ByteArray.empty, ByteArray.empty, ()) (by omega)] at hl ⊢
    simp only [Int.toNat_natCast, set_mid _ _ _ _ i hA, get_mid _ _ _ _ i hA]
    have hl' : ∀ y : (ByteArray × ByteArray × ByteArray × Unit), ((M47 x1 i ++ y :: x0.drop (i + 1)).length : Int) = x0.length := fun y => by rw [← hl]; simp
    simp only [hl']
    refine ⟨by omega, by omega, by rw [i64_iff]; omega, by omega, by omega, by rw [i64_iff]; omega, by omega, by omega, by rw [i64_iff]; omega, inR_up hm (by omega), ?_⟩
    have hx : x1 + 3 * (i : Int) + 1 + 1 + 1 = x1 + 3 * ((i + 1 : Nat) : Int) := by omega
    have := ih (i + 1) (by omega)
    rw [M47_succ, List.append_assoc] at this
    rw [hx]
    simpa using this

def P47 (x0 : List (ByteArray × ByteArray × ByteArray × Unit)) (x1 : Int) : Prop := 0 ≤ x1 ∧ x1 + 3 * x0.length ≤ 9223372036854775807
def g47_0 (x0 : List (ByteArray × ByteArray × ByteArray × Unit)) (x1 : Int) : Int := x1 + 3 * (x0.length : Int)
def u47_0 (x0 : List (ByteArray × ByteArray × ByteArray × Unit)) (x1 : Int) : List (ByteArray × ByteArray × ByteArray × Unit) := M47 x1 x0.length

theorem top47 (x0 : List (ByteArray × ByteArray × ByteArray × Unit)) (x1 : Int) (hm : x0.length ≤ maxLen) (h : P47 x0 x1) : R47 (x0.length + 1 + 1) x0 x1 [⟨.int .i64, g47_0 x0 x1⟩] [some ⟨(.cons .str (.cons .str (.cons .str .unit))), u47_0 x0 x1⟩] := by
  rw [R47]
  have := run47 x0 x1 hm h.1 h.2 x0.length 0 (by omega)
  simpa [M47, g47_0, u47_0] using this

def S47 : Am.Spec := { sig := sig47, pre := fun ⟨x0, x1, _⟩ => P47 x0 x1, upd := fun ⟨x0, x1, _⟩ => [some ⟨(.cons .str (.cons .str (.cons .str .unit))), u47_0 x0 x1⟩], res := fun ⟨x0, x1, _⟩ => [⟨.int .i64, g47_0 x0 x1⟩] }
theorem con47 : Contract Try.prog 47 S47 := contract_of Try.func47 hb47 (Nat.le_of_ble_eq_true (by kernel_rfl)) (fun ⟨x0, x1, _⟩ h hwf w0 O q =>
  (snd47 _).1 x0 x1 _ _ (top47 x0 x1 hwf.1.1 h) w0 O q)

end Go.Proofs.Ytjkeinpcphkfbaa

/- Function 50 (laws.heldBlockS): its runs between cut points. Written by a program of this repo (gen). -/
set_option linter.unusedVariables false
set_option linter.unusedSimpArgs false
set_option maxRecDepth 100000
namespace Go.Proofs.Ytjkeinpcphkfbaa
open Go Go.Am Go.Proofs
def ext50 : Ext := [(72, S72)]
theorem call50_72 : Callable Try.prog 72 := ⟨Try.f72, Try.func72, by kernel_rfl, by kernel_rfl⟩
theorem ext50Ok : ExtOk Try.prog ext50 := ⟨⟨call50_72, con72⟩, trivial⟩
/-! Function 50. -/
noncomputable def b50 : Code := bodyOf Try.f50
theorem hb50 : Try.f50.body = some b50 := by kernel_rfl
def sig50 : List AT := [AT.v (Ty.sl (Ty.cons Ty.str (Ty.cons Ty.str (Ty.cons Ty.str Ty.unit)))), AT.v (Ty.int IntKind.i64)]
def tys50 : List Ty := [Ty.int IntKind.i64]
def E50_2 (v5 : Int) (x0 : List (ByteArray × ByteArray × ByteArray × Unit)) (x1 : Int) : Env := [(0, PV.a (Atom.sl (Ty.cons Ty.str (Ty.cons Ty.str (Ty.cons Ty.str Ty.unit))) x0)), (1, PV.a (Atom.val (Value.int IntKind.i64 x1))), (5, PV.a (Atom.val (Value.int IntKind.i64 v5)))]
def L50_2 (v5 : Int) (x0 : List (ByteArray × ByteArray × ByteArray × Unit)) (x1 : Int) : Heap := []
mutual
def R50 : Nat → List (ByteArray × ByteArray × ByteArray × Unit) → Int → List Dyn → Prop
  | 0, _, _, _ => False
  | n + 1, x0, x1, ds => (R50_2 n (0) (x0) (x1) ds)
def R50_2 : Nat → Int → List (ByteArray × ByteArray × ByteArray × Unit) → Int → List Dyn → Prop
  | 0, _, _, _, _ => False
  | n + 1, v5, x0, x1, ds => (if (Decidable.decide (v5 < (↑(List.length x0) : Int))) = true then ((0 ≤ v5) ∧ (v5 < (↑(List.length x0) : Int)) ∧ (if (!ByteArray.toList (Prod.fst (List.getD x0 (Int.toNat v5) (ByteArray.empty, ByteArray.empty, ByteArray.empty, ()))) == ByteArray.toList (g72_0 x1)) = true then (ds = [Dyn.mk (Ty.int IntKind.i64) (-1)]) else ((InR IntKind.i64 (x1 + 1)) ∧ ((0 ≤ v5) ∧ (v5 < (↑(List.length x0) : Int)) ∧ (if (!ByteArray.toList (Prod.fst (Prod.snd (List.getD x0 (Int.toNat v5) (ByteArray.empty, ByteArray.empty, ByteArray.empty, ())))) == ByteArray.toList (g72_0 (x1 + 1))) = true then (ds = [Dyn.mk (Ty.int IntKind.i64) (-1)]) else ((InR IntKind.i64 (x1 + 1 + 1)) ∧ ((0 ≤ v5) ∧ (v5 < (↑(List.length x0) : Int)) ∧ (if (!ByteArray.toList (Prod.fst (Prod.snd (Prod.snd (List.getD x0 (Int.toNat v5) (ByteArray.empty, ByteArray.empty, ByteArray.empty, ()))))) == ByteArray.toList (g72_0 (x1 + 1 + 1))) = true then (ds = [Dyn.mk (Ty.int IntKind.i64) (-1)]) else ((InR IntKind.i64 (x1 + 1 + 1 + 1)) ∧ ((InR IntKind.i64 (v5 + 1)) ∧ (R50_2 n (v5 + 1) (x0) (x1 + 1 + 1 + 1) ds))))))))))) else (ds = [Dyn.mk (Ty.int IntKind.i64) x1]))
end
theorem p50_0 (x0 : List (ByteArray × ByteArray × ByteArray × Unit)) (x1 : Int) : Am.runN tab ext50 false 43 [] 2000 [] [] [0, 1, 5] [] [] [.code b50] (entE 0 0 sig50 (x0, x1, ())) (entL sig50 (x0, x1, ())) = some (cutAt b50 2, E50_2 (0) (x0) (x1), L50_2 (0) (x0) (x1), []) := by kernel_rfl
theorem p50_1 (v5 : Int) (x0 : List (ByteArray × ByteArray × ByteArray × Unit)) (x1 : Int) : runF tab ext50 false 43 [] 2000 [] tys50 Try.f50.results [true, true] (cutAt b50 2) (E50_2 v5 x0 x1) (L50_2 v5 x0 x1) = some ([Dyn.mk (Ty.int IntKind.i64) (-1)], [], [Decidable.decide (v5 < (↑(List.length x0) : Int)) = Bool.true, 0 ≤ v5, v5 < (↑(List.length x0) : Int), True, (!ByteArray.toList (Prod.fst (List.getD x0 (Int.toNat v5) (ByteArray.empty, ByteArray.empty, ByteArray.empty, ()))) == ByteArray.toList (g72_0 x1)) = Bool.true]) := by kernel_rfl
theorem p50_2 (v5 : Int) (x0 : List (ByteArray × ByteArray × ByteArray × Unit)) (x1 : Int) : runF tab ext50 false 43 [] 2000 [] tys50 Try.f50.results [true, false, true] (cutAt b50 2) (E50_2 v5 x0 x1) (L50_2 v5 x0 x1) = some ([Dyn.mk (Ty.int IntKind.i64) (-1)], [], [Decidable.decide (v5 < (↑(List.length x0) : Int)) = Bool.true, 0 ≤ v5, v5 < (↑(List.length x0) : Int), True, (!ByteArray.toList (Prod.fst (List.getD x0 (Int.toNat v5) (ByteArray.empty, ByteArray.empty, ByteArray.empty, ()))) == ByteArray.toList (g72_0 x1)) = Bool.false, InR IntKind.i64 (x1 + 1), 0 ≤ v5, v5 < (↑(List.length x0) : Int), True, (!ByteArray.toList (Prod.fst (Prod.snd (List.getD x0 (Int.toNat v5) (ByteArray.empty, ByteArray.empty, ByteArray.empty, ())))) == ByteArray.toList (g72_0 (x1 + 1))) = Bool.true]) := by kernel_rfl
theorem p50_3 (v5 : Int) (x0 : List (ByteArray × ByteArray × ByteArray × Unit)) (x1 : Int) : runF tab ext50 false 43 [] 2000 [] tys50 Try.f50.results [true, false, false, true] (cutAt b50 2) (E50_2 v5 x0 x1) (L50_2 v5 x0 x1) = some ([Dyn.mk (Ty.int IntKind.i64) (-1)], [], [Decidable.decide (v5 < (↑(List.length x0) : Int)) = Bool.true, 0 ≤ v5, v5 < (↑(List.length x0) : Int), True, (!ByteArray.toList (Prod.fst (List.getD x0 (Int.toNat v5) (ByteArray.empty, ByteArray.empty, ByteArray.empty, ()))) == ByteArray.toList (g72_0 x1)) = Bool.false, InR IntKind.i64 (x1 + 1), 0 ≤ v5, v5 < (↑(List.length x0) : Int), True, (!ByteArray.toList (Prod.fst (Prod.snd (List.getD x0 (Int.toNat v5) (ByteArray.empty, ByteArray.empty, ByteArray.empty, ())))) == ByteArray.toList (g72_0 (x1 + 1))) = Bool.false, InR IntKind.i64 (x1 + 1 + 1), 0 ≤ v5, v5 < (↑(List.length x0) : Int), True, (!ByteArray.toList (Prod.fst (Prod.snd (Prod.snd (List.getD x0 (Int.toNat v5) (ByteArray.empty, ByteArray.empty, ByteArray.empty, ()))))) == ByteArray.toList (g72_0 (x1 + 1 + 1))) = Bool.true]) := by kernel_rfl
theorem p50_4 (v5 : Int) (x0 : List (ByteArray × ByteArray × ByteArray × Unit)) (x1 : Int) : Am.runN tab ext50 false 43 [] 2000 [] [] [0, 1, 5] [] [true, false, false, false] (cutAt b50 2) (E50_2 v5 x0 x1) (L50_2 v5 x0 x1) = some (cutAt b50 2, E50_2 (v5 + 1) (x0) (x1 + 1 + 1 + 1), L50_2 (v5 + 1) (x0) (x1 + 1 + 1 + 1), [Decidable.decide (v5 < (↑(List.length x0) : Int)) = Bool.true, 0 ≤ v5, v5 < (↑(List.length x0) : Int), True, (!ByteArray.toList (Prod.fst (List.getD x0 (Int.toNat v5) (ByteArray.empty, ByteArray.empty, ByteArray.empty, ()))) == ByteArray.toList (g72_0 x1)) = Bool.false, InR IntKind.i64 (x1 + 1), 0 ≤ v5, v5 < (↑(List.length x0) : Int), True, (!ByteArray.toList (Prod.fst (Prod.snd (List.getD x0 (Int.toNat v5) (ByteArray.empty, ByteArray.empty, ByteArray.empty, ())))) == ByteArray.toList (g72_0 (x1 + 1))) = Bool.false, InR IntKind.i64 (x1 + 1 + 1), 0 ≤ v5, v5 < (↑(List.length x0) : Int), True, (!ByteArray.toList (Prod.fst (Prod.snd (Prod.snd (List.getD x0 (Int.toNat v5) (ByteArray.empty, ByteArray.empty, ByteArray.empty, ()))))) == ByteArray.toList (g72_0 (x1 + 1 + 1))) = Bool.false, InR IntKind.i64 (x1 + 1 + 1 + 1), InR IntKind.i64 (v5 + 1)]) := by kernel_rfl
theorem p50_5 (v5 : Int) (x0 : List (ByteArray × ByteArray × ByteArray × Unit)) (x1 : Int) : runF tab ext50 false 43 [] 2000 [] tys50 Try.f50.results [false] (cutAt b50 2) (E50_2 v5 x0 x1) (L50_2 v5 x0 x1) = some ([Dyn.mk (Ty.int IntKind.i64) x1], [], [Decidable.decide (v5 < (↑(List.length x0) : Int)) = Bool.false]) := by kernel_rfl
theorem snd50 : ∀ n, (∀ (x0 : List (ByteArray × ByteArray × ByteArray × Unit)) (x1 : Int) ds, R50 n x0 x1 ds → ∀ w0 O q, AtV Try.prog 50 (PostR ds [] [] q w0 O) 43 w0 O q [] [.code b50] (entE 0 0 sig50 (x0, x1, ())) (entL sig50 (x0, x1, ()))) ∧ (∀ (v5 : Int) (x0 : List (ByteArray × ByteArray × ByteArray × Unit)) (x1 : Int) ds, R50_2 n v5 x0 x1 ds → ∀ w0 O q, AtV Try.prog 50 (PostR ds [] [] q w0 O) 43 w0 O q [] (cutAt b50 2) (E50_2 v5 x0 x1) (L50_2 v5 x0 x1)) := by
  intro n
  induction n with
  | zero => exact ⟨fun _ _ _ h => by simp only [R50] at h, fun _ _ _ _ h => by simp only [R50_2] at h⟩
  | succ n ih =>
  obtain ⟨ih, ih2⟩ := ih
  refine ⟨?_, ?_⟩
  · intro x0 x1 ds h w0 O q
    rw [R50] at h
    exact AtV.runN tabOk ext50Ok mixed (p50_0 x0 x1) trivial (ih2 _ _ _ _ h w0 O q)

  · intro v5 x0 x1 ds h w0 O q
    rw [R50_2] at h
    by_cases b0 : (Decidable.decide (v5 < (↑(List.length x0) : Int))) = true
    · rw [if_pos b0] at h
      obtain ⟨s0, s1, h⟩ := h
      by_cases b1 : (!ByteArray.toList (Prod.fst (List.getD x0 (Int.toNat v5) (ByteArray.empty, ByteArray.empty, ByteArray.empty, ()))) == ByteArray.toList (g72_0 x1)) = true
      · rw [if_pos b1] at h
        subst h
        exact AtV.fin Try.func50 tabOk ext50Ok mixed (p50_1 v5 x0 x1) ⟨b0, s0, s1, trivial, b1, trivial⟩
      · rw [if_neg b1] at h
        replace b1 := Bool.eq_false_iff.2 b1
        obtain ⟨s2, h⟩ := h
        obtain ⟨s3, s4, h⟩ := h
        by_cases b2 : (!ByteArray.toList (Prod.fst (Prod.snd (List.getD x0 (Int.toNat v5) (ByteArray.empty, ByteArray.empty, ByteArray.empty, ())))) == ByteArray.toList (g72_0 (x1 + 1))) = true
        · rw [if_pos b2] at h
          subst h
          exact AtV.fin Try.func50 tabOk ext50Ok mixed (p50_2 v5 x0 x1) ⟨b0, s0, s1, trivial, b1, s2, s3, s4, trivial, b2, trivial⟩
        · rw [if_neg b2] at h
          replace b2 := Bool.eq_false_iff.2 b2
          obtain ⟨s5, h⟩ := h
          obtain ⟨s6, s7, h⟩ := h
          by_cases b3 : (!ByteArray.toList (Prod.fst (Prod.snd (Prod.snd (List.getD x0 (Int.toNat v5) (ByteArray.empty, ByteArray.empty, ByteArray.empty, ()))))) == ByteArray.toList (g72_0 (x1 + 1 + 1))) = true
          · rw [if_pos b3] at h
            subst h
            exact AtV.fin Try.func50 tabOk ext50Ok mixed (p50_3 v5 x0 x1) ⟨b0, s0, s1, trivial, b1, s2, s3, s4, trivial, b2, s5, s6, s7, trivial, b3, trivial⟩
          · rw [if_neg b3] at h
            replace b3 := Bool.eq_false_iff.2 b3
            obtain ⟨s8, h⟩ := h
            obtain ⟨s9, h⟩ := h
            exact AtV.runN tabOk ext50Ok mixed (p50_4 v5 x0 x1) ⟨b0, s0, s1, trivial, b1, s2, s3, s4, trivial, b2, s5, s6, s7, trivial, b3, s8, s9, trivial⟩ (ih2 _ _ _ _ h w0 O q)
    · rw [if_neg b0] at h
      replace b0 := Bool.eq_false_iff.2 b0
      subst h
      exact AtV.fin Try.func50 tabOk ext50Ok mixed (p50_5 v5 x0 x1) ⟨b0, trivial⟩



theorem run50 (x0 : List (ByteArray × ByteArray × ByteArray × Unit)) (x1 : Int) (hm : x0.length ≤ maxLen) (h0 : 0 ≤ x1) (h1 : x1 + 3 * x0.length ≤ 9223372036854775807) (he : ∀ i : Nat, i < x0.length → x0.getD i (ByteArray.empty, ByteArray.empty, ByteArray.empty, ()) = (g72_0 (x1 + 3 * (i : Int)), g72_0 (x1 + 3 * (i : Int) + 1), g72_0 (x1 + 3 * (i : Int) + 1 + 1), ())) : ∀ (k i : Nat), i + k = x0.length →
    R50_2 (k + 1) (i : Int) x0 (x1 + 3 * (i : Int)) [⟨.int .i64, x1 + 3 * (x0.length : Int)⟩] := by
  intro k
  induction k with
  | zero =>
    intro i hi
    rw [R50_2, if_neg (by simp; omega)]
    have : i = x0.length := by omega
    subst this
    rfl
  | succ k ih =>
    intro i hi
    rw [R50_2, if_pos (by simp; omega)]
    simp only [Int.toNat_natCast, he i (by omega)]
    have hb : ∀ y : ByteArray, (!(ByteArray.toList y == ByteArray.toList y)) = true → False := fun y h => by rw [(bytes_eq y y).2 rfl] at h; cases h
    refine ⟨by omega, by omega, ?_⟩
    rw [if_neg (hb _)]
    refine ⟨by rw [i64_iff]; omega, by omega, by omega, ?_⟩
    rw [if_neg (hb _)]
    refine ⟨by rw [i64_iff]; omega, by omega, by omega, ?_⟩
    rw [if_neg (hb _)]
    refine ⟨by rw [i64_iff]; omega, inR_up hm (by omega), ?_⟩
    have hx : x1 + 3 * (i : Int) + 1 + 1 + 1 = x1 + 3 * ((i + 1 : Nat) : Int) := by omega
    rw [hx]
    exact ih (i + 1) (by omega)

def P50 (x0 : List (ByteArray × ByteArray × ByteArray × Unit)) (x1 : Int) : Prop := (0 ≤ x1 ∧ x1 + 3 * x0.length ≤ 9223372036854775807) ∧ ∀ i : Nat, i < x0.length → x0.getD i (ByteArray.empty, ByteArray.empty, ByteArray.empty, ()) = (g72_0 (x1 + 3 * (i : Int)), g72_0 (x1 + 3 * (i : Int) + 1), g72_0 (x1 + 3 * (i : Int) + 1 + 1), ())
def g50_0 (x0 : List (ByteArray × ByteArray × ByteArray × Unit)) (x1 : Int) : Int := x1 + 3 * (x0.length : Int)

theorem top50 (x0 : List (ByteArray × ByteArray × ByteArray × Unit)) (x1 : Int) (hm : x0.length ≤ maxLen) (h : P50 x0 x1) : R50 (x0.length + 1 + 1) x0 x1 [⟨.int .i64, g50_0 x0 x1⟩] := by
  rw [R50]
  have := run50 x0 x1 hm h.1.1 h.1.2 h.2 x0.length 0 (by omega)
  simpa [g50_0] using this

def S50 : Am.Spec := { sig := sig50, pre := fun ⟨x0, x1, _⟩ => P50 x0 x1, res := fun ⟨x0, x1, _⟩ => [⟨.int .i64, g50_0 x0 x1⟩] }
theorem con50 : Contract Try.prog 50 S50 := contract_of Try.func50 hb50 (Nat.le_of_ble_eq_true (by kernel_rfl)) (fun ⟨x0, x1, _⟩ h hwf w0 O q =>
  (snd50 _).1 x0 x1 _ (top50 x0 x1 hwf.1.1 h) w0 O q)

end Go.Proofs.Ytjkeinpcphkfbaa

/- Function 13 (laws.FnExactPutBlock): its runs between cut points. Written by a program of this repo (gen). -/
set_option linter.unusedVariables false
set_option linter.unusedSimpArgs false
set_option maxRecDepth 100000
namespace Go.Proofs.Ytjkeinpcphkfbaa
open Go Go.Am Go.Proofs
def ext13 : Ext := [(34, S34), (59, S59), (36, S36), (61, S61), (60, S60), (62, S62), (38, S38), (47, S47), (50, S50)]
theorem call13_34 : Callable Try.prog 34 := ⟨Try.f34, Try.func34, by kernel_rfl, by kernel_rfl⟩
theorem call13_59 : Callable Try.prog 59 := ⟨Try.f59, Try.func59, by kernel_rfl, by kernel_rfl⟩
theorem call13_36 : Callable Try.prog 36 := ⟨Try.f36, Try.func36, by kernel_rfl, by kernel_rfl⟩
theorem call13_61 : Callable Try.prog 61 := ⟨Try.f61, Try.func61, by kernel_rfl, by kernel_rfl⟩
theorem call13_60 : Callable Try.prog 60 := ⟨Try.f60, Try.func60, by kernel_rfl, by kernel_rfl⟩
theorem call13_62 : Callable Try.prog 62 := ⟨Try.f62, Try.func62, by kernel_rfl, by kernel_rfl⟩
theorem call13_38 : Callable Try.prog 38 := ⟨Try.f38, Try.func38, by kernel_rfl, by kernel_rfl⟩
theorem call13_47 : Callable Try.prog 47 := ⟨Try.f47, Try.func47, by kernel_rfl, by kernel_rfl⟩
theorem call13_50 : Callable Try.prog 50 := ⟨Try.f50, Try.func50, by kernel_rfl, by kernel_rfl⟩
theorem ext13Ok : ExtOk Try.prog ext13 := ⟨⟨call13_34, con34⟩, ⟨call13_59, con59⟩, ⟨call13_36, con36⟩, ⟨call13_61, con61⟩, ⟨call13_60, con60⟩, ⟨call13_62, con62⟩, ⟨call13_38, con38⟩, ⟨call13_47, con47⟩, ⟨call13_50, con50⟩, trivial⟩
/-! Function 13. -/
noncomputable def b13 : Code := bodyOf Try.f13
theorem hb13 : Try.f13.body = some b13 := by kernel_rfl
def sig13 : List AT := [AT.v (Ty.sl (Ty.cons Ty.str (Ty.cons Ty.str (Ty.cons Ty.str Ty.unit)))), AT.v (Ty.cons Ty.str (Ty.cons Ty.str (Ty.cons Ty.str Ty.unit)))]
def tys13 : List Ty := [Ty.bool]
def P13 (x0 : List (ByteArray × ByteArray × ByteArray × Unit)) (x1 : ByteArray × ByteArray × ByteArray × Unit) : Prop := ((P34 x0 1048576) ∧ (if (Decidable.decide (g34_0 x0 1048576 < 0)) = true then True else ((P59 x1 (g34_0 x0 1048576)) ∧ (if (Decidable.decide (g59_0 x1 (g34_0 x0 1048576) < 0)) = true then True else ((P36 x0) ∧ ((P60 (g36_0 x0) (Prod.fst x1, Prod.fst (Prod.snd x1), Prod.fst (Prod.snd (Prod.snd x1)), ())) ∧ ((P36 x0) ∧ ((P62 (g36_0 x0) (Prod.fst x1, Prod.fst (Prod.snd x1), Prod.fst (Prod.snd (Prod.snd x1)), ())) ∧ (if (!g38_0 (g62_0 (g36_0 x0) (Prod.fst x1, Prod.fst (Prod.snd x1), Prod.fst (Prod.snd (Prod.snd x1)), ())) (g60_0 (g36_0 x0) (Prod.fst x1, Prod.fst (Prod.snd x1), Prod.fst (Prod.snd (Prod.snd x1)), ()))) = true then True else (if (g62_1 (g36_0 x0) (Prod.fst x1, Prod.fst (Prod.snd x1), Prod.fst (Prod.snd (Prod.snd x1)), ()) != g60_1 (g36_0 x0) (Prod.fst x1, Prod.fst (Prod.snd x1), Prod.fst (Prod.snd (Prod.snd x1)), ())) = true then True else ((P36 x0) ∧ (if (!g38_0 (g36_0 x0) (g36_0 x0)) = true then True else ((P47 (g36_0 x0) 1) ∧ (List.length (u47_0 (g36_0 x0) 1) = List.length (g36_0 x0)) ∧ (if (Decidable.decide (g47_0 (g36_0 x0) 1 < 0)) = true then True else ((P47 (g62_0 (g36_0 x0) (Prod.fst x1, Prod.fst (Prod.snd x1), Prod.fst (Prod.snd (Prod.snd x1)), ())) 1) ∧ (List.length (u47_0 (g62_0 (g36_0 x0) (Prod.fst x1, Prod.fst (Prod.snd x1), Prod.fst (Prod.snd (Prod.snd x1)), ())) 1) = List.length (g62_0 (g36_0 x0) (Prod.fst x1, Prod.fst (Prod.snd x1), Prod.fst (Prod.snd (Prod.snd x1)), ()))) ∧ ((P50 (u47_0 (g62_0 (g36_0 x0) (Prod.fst x1, Prod.fst (Prod.snd x1), Prod.fst (Prod.snd (Prod.snd x1)), ())) 1) 1) ∧ (if (Decidable.decide (g50_0 (u47_0 (g62_0 (g36_0 x0) (Prod.fst x1, Prod.fst (Prod.snd x1), Prod.fst (Prod.snd (Prod.snd x1)), ())) 1) 1 < 0)) = true then True else (if (g50_0 (u47_0 (g62_0 (g36_0 x0) (Prod.fst x1, Prod.fst (Prod.snd x1), Prod.fst (Prod.snd (Prod.snd x1)), ())) 1) 1 != g47_0 (g62_0 (g36_0 x0) (Prod.fst x1, Prod.fst (Prod.snd x1), Prod.fst (Prod.snd (Prod.snd x1)), ())) 1) = true then True else ((P36 x0) ∧ ((P62 (g36_0 x0) (Prod.fst x1, Prod.fst (Prod.snd x1), Prod.fst (Prod.snd (Prod.snd x1)), ())) ∧ ((P50 (u47_0 (g62_0 (g36_0 x0) (Prod.fst x1, Prod.fst (Prod.snd x1), Prod.fst (Prod.snd (Prod.snd x1)), ())) 1) 1) ∧ True)))))))))))))))))))))
def g13_0 (x0 : List (ByteArray × ByteArray × ByteArray × Unit)) (x1 : ByteArray × ByteArray × ByteArray × Unit) : Bool := (if (Decidable.decide (g34_0 x0 1048576 < 0)) = true then Bool.true else (if (Decidable.decide (g59_0 x1 (g34_0 x0 1048576) < 0)) = true then Bool.true else (if (!g38_0 (g62_0 (g36_0 x0) (Prod.fst x1, Prod.fst (Prod.snd x1), Prod.fst (Prod.snd (Prod.snd x1)), ())) (g60_0 (g36_0 x0) (Prod.fst x1, Prod.fst (Prod.snd x1), Prod.fst (Prod.snd (Prod.snd x1)), ()))) = true then Bool.false else (if (g62_1 (g36_0 x0) (Prod.fst x1, Prod.fst (Prod.snd x1), Prod.fst (Prod.snd (Prod.snd x1)), ()) != g60_1 (g36_0 x0) (Prod.fst x1, Prod.fst (Prod.snd x1), Prod.fst (Prod.snd (Prod.snd x1)), ())) = true then Bool.false else (if (!g38_0 (g36_0 x0) (g36_0 x0)) = true then Bool.false else (if (Decidable.decide (g47_0 (g36_0 x0) 1 < 0)) = true then Bool.false else (if (Decidable.decide (g50_0 (u47_0 (g62_0 (g36_0 x0) (Prod.fst x1, Prod.fst (Prod.snd x1), Prod.fst (Prod.snd (Prod.snd x1)), ())) 1) 1 < 0)) = true then Bool.false else (if (g50_0 (u47_0 (g62_0 (g36_0 x0) (Prod.fst x1, Prod.fst (Prod.snd x1), Prod.fst (Prod.snd (Prod.snd x1)), ())) 1) 1 != g47_0 (g62_0 (g36_0 x0) (Prod.fst x1, Prod.fst (Prod.snd x1), Prod.fst (Prod.snd (Prod.snd x1)), ())) 1) = true then Bool.false else Bool.true))))))))
theorem p13_0 (x0 : List (ByteArray × ByteArray × ByteArray × Unit)) (x1 : ByteArray × ByteArray × ByteArray × Unit) : runF tab ext13 false 109 [] 2000 [] tys13 Try.f13.results [true] [.code b13] (entE 0 0 sig13 (x0, x1, ())) (entL sig13 (x0, x1, ())) = some ([Dyn.mk Ty.bool Bool.true], [], [P34 x0 1048576, Decidable.decide (g34_0 x0 1048576 < 0) = Bool.true]) := by kernel_rfl
theorem p13_1 (x0 : List (ByteArray × ByteArray × ByteArray × Unit)) (x1 : ByteArray × ByteArray × ByteArray × Unit) : runF tab ext13 false 109 [] 2000 [] tys13 Try.f13.results [false, true] [.code b13] (entE 0 0 sig13 (x0, x1, ())) (entL sig13 (x0, x1, ())) = some ([Dyn.mk Ty.bool Bool.true], [], [P34 x0 1048576, Decidable.decide (g34_0 x0 1048576 < 0) = Bool.false, P59 x1 (g34_0 x0 1048576), Decidable.decide (g59_0 x1 (g34_0 x0 1048576) < 0) = Bool.true]) := by kernel_rfl
theorem p13_2 (x0 : List (ByteArray × ByteArray × ByteArray × Unit)) (x1 : ByteArray × ByteArray × ByteArray × Unit) : runF tab ext13 false 109 [] 2000 [] tys13 Try.f13.results [false, false, true, true] [.code b13] (entE 0 0 sig13 (x0, x1, ())) (entL sig13 (x0, x1, ())) = some ([Dyn.mk Ty.bool Bool.false], [], [P34 x0 1048576, Decidable.decide (g34_0 x0 1048576 < 0) = Bool.false, P59 x1 (g34_0 x0 1048576), Decidable.decide (g59_0 x1 (g34_0 x0 1048576) < 0) = Bool.false, P36 x0, True, P60 (g36_0 x0) (Prod.fst x1, Prod.fst (Prod.snd x1), Prod.fst (Prod.snd (Prod.snd x1)), ()), P36 x0, True, P62 (g36_0 x0) (Prod.fst x1, Prod.fst (Prod.snd x1), Prod.fst (Prod.snd (Prod.snd x1)), ()), True, (!g38_0 (g62_0 (g36_0 x0) (Prod.fst x1, Prod.fst (Prod.snd x1), Prod.fst (Prod.snd (Prod.snd x1)), ())) (g60_0 (g36_0 x0) (Prod.fst x1, Prod.fst (Prod.snd x1), Prod.fst (Prod.snd (Prod.snd x1)), ()))) = Bool.true, Bool.true = Bool.true]) := by kernel_rfl
theorem p13_3 (x0 : List (ByteArray × ByteArray × ByteArray × Unit)) (x1 : ByteArray × ByteArray × ByteArray × Unit) : runF tab ext13 false 109 [] 2000 [] tys13 Try.f13.results [false, false, false, true] [.code b13] (entE 0 0 sig13 (x0, x1, ())) (entL sig13 (x0, x1, ())) = some ([Dyn.mk Ty.bool Bool.false], [], [P34 x0 1048576, Decidable.decide (g34_0 x0 1048576 < 0) = Bool.false, P59 x1 (g34_0 x0 1048576), Decidable.decide (g59_0 x1 (g34_0 x0 1048576) < 0) = Bool.false, P36 x0, True, P60 (g36_0 x0) (Prod.fst x1, Prod.fst (Prod.snd x1), Prod.fst (Prod.snd (Prod.snd x1)), ()), P36 x0, True, P62 (g36_0 x0) (Prod.fst x1, Prod.fst (Prod.snd x1), Prod.fst (Prod.snd (Prod.snd x1)), ()), True, (!g38_0 (g62_0 (g36_0 x0) (Prod.fst x1, Prod.fst (Prod.snd x1), Prod.fst (Prod.snd (Prod.snd x1)), ())) (g60_0 (g36_0 x0) (Prod.fst x1, Prod.fst (Prod.snd x1), Prod.fst (Prod.snd (Prod.snd x1)), ()))) = Bool.false, (g62_1 (g36_0 x0) (Prod.fst x1, Prod.fst (Prod.snd x1), Prod.fst (Prod.snd (Prod.snd x1)), ()) != g60_1 (g36_0 x0) (Prod.fst x1, Prod.fst (Prod.snd x1), Prod.fst (Prod.snd (Prod.snd x1)), ())) = Bool.true]) := by kernel_rfl
theorem p13_4 (x0 : List (ByteArray × ByteArray × ByteArray × Unit)) (x1 : ByteArray × ByteArray × ByteArray × Unit) : runF tab ext13 false 109 [] 2000 [] tys13 Try.f13.results [false, false, false, false, true] [.code b13] (entE 0 0 sig13 (x0, x1, ())) (entL sig13 (x0, x1, ())) = some ([Dyn.mk Ty.bool Bool.false], [], [P34 x0 1048576, Decidable.decide (g34_0 x0 1048576 < 0) = Bool.false, P59 x1 (g34_0 x0 1048576), Decidable.decide (g59_0 x1 (g34_0 x0 1048576) < 0) = Bool.false, P36 x0, True, P60 (g36_0 x0) (Prod.fst x1, Prod.fst (Prod.snd x1), Prod.fst (Prod.snd (Prod.snd x1)), ()), P36 x0, True, P62 (g36_0 x0) (Prod.fst x1, Prod.fst (Prod.snd x1), Prod.fst (Prod.snd (Prod.snd x1)), ()), True, (!g38_0 (g62_0 (g36_0 x0) (Prod.fst x1, Prod.fst (Prod.snd x1), Prod.fst (Prod.snd (Prod.snd x1)), ())) (g60_0 (g36_0 x0) (Prod.fst x1, Prod.fst (Prod.snd x1), Prod.fst (Prod.snd (Prod.snd x1)), ()))) = Bool.false, (g62_1 (g36_0 x0) (Prod.fst x1, Prod.fst (Prod.snd x1), Prod.fst (Prod.snd (Prod.snd x1)), ()) != g60_1 (g36_0 x0) (Prod.fst x1, Prod.fst (Prod.snd x1), Prod.fst (Prod.snd (Prod.snd x1)), ())) = Bool.false, P36 x0, True, (!g38_0 (g36_0 x0) (g36_0 x0)) = Bool.true]) := by kernel_rfl
theorem p13_5 (x0 : List (ByteArray × ByteArray × ByteArray × Unit)) (x1 : ByteArray × ByteArray × ByteArray × Unit) : runF tab ext13 false 109 [] 2000 [] tys13 Try.f13.results [false, false, false, false, false, true, true, true] [.code b13] (entE 0 0 sig13 (x0, x1, ())) (entL sig13 (x0, x1, ())) = some ([Dyn.mk Ty.bool Bool.false], [], [P34 x0 1048576, Decidable.decide (g34_0 x0 1048576 < 0) = Bool.false, P59 x1 (g34_0 x0 1048576), Decidable.decide (g59_0 x1 (g34_0 x0 1048576) < 0) = Bool.false, P36 x0, True, P60 (g36_0 x0) (Prod.fst x1, Prod.fst (Prod.snd x1), Prod.fst (Prod.snd (Prod.snd x1)), ()), P36 x0, True, P62 (g36_0 x0) (Prod.fst x1, Prod.fst (Prod.snd x1), Prod.fst (Prod.snd (Prod.snd x1)), ()), True, (!g38_0 (g62_0 (g36_0 x0) (Prod.fst x1, Prod.fst (Prod.snd x1), Prod.fst (Prod.snd (Prod.snd x1)), ())) (g60_0 (g36_0 x0) (Prod.fst x1, Prod.fst (Prod.snd x1), Prod.fst (Prod.snd (Prod.snd x1)), ()))) = Bool.false, (g62_1 (g36_0 x0) (Prod.fst x1, Prod.fst (Prod.snd x1), Prod.fst (Prod.snd (Prod.snd x1)), ()) != g60_1 (g36_0 x0) (Prod.fst x1, Prod.fst (Prod.snd x1), Prod.fst (Prod.snd (Prod.snd x1)), ())) = Bool.false, P36 x0, True, (!g38_0 (g36_0 x0) (g36_0 x0)) = Bool.false, P47 (g36_0 x0) 1, List.length (u47_0 (g36_0 x0) 1) = List.length (g36_0 x0), Decidable.decide (g47_0 (g36_0 x0) 1 < 0) = Bool.true, Bool.true = Bool.true, Bool.true = Bool.true]) := by kernel_rfl
theorem p13_6 (x0 : List (ByteArray × ByteArray × ByteArray × Unit)) (x1 : ByteArray × ByteArray × ByteArray × Unit) : runF tab ext13 false 109 [] 2000 [] tys13 Try.f13.results [false, false, false, false, false, false, false, false, true] [.code b13] (entE 0 0 sig13 (x0, x1, ())) (entL sig13 (x0, x1, ())) = some ([Dyn.mk Ty.bool Bool.false], [], [P34 x0 1048576, Decidable.decide (g34_0 x0 1048576 < 0) = Bool.false, P59 x1 (g34_0 x0 1048576), Decidable.decide (g59_0 x1 (g34_0 x0 1048576) < 0) = Bool.false, P36 x0, True, P60 (g36_0 x0) (Prod.fst x1, Prod.fst (Prod.snd x1), Prod.fst (Prod.snd (Prod.snd x1)), ()), P36 x0, True, P62 (g36_0 x0) (Prod.fst x1, Prod.fst (Prod.snd x1), Prod.fst (Prod.snd (Prod.snd x1)), ()), True, (!g38_0 (g62_0 (g36_0 x0) (Prod.fst x1, Prod.fst (Prod.snd x1), Prod.fst (Prod.snd (Prod.snd x1)), ())) (g60_0 (g36_0 x0) (Prod.fst x1, Prod.fst (Prod.snd x1), Prod.fst (Prod.snd (Prod.snd x1)), ()))) = Bool.false, (g62_1 (g36_0 x0) (Prod.fst x1, Prod.fst (Prod.snd x1), Prod.fst (Prod.snd (Prod.snd x1)), ()) != g60_1 (g36_0 x0) (Prod.fst x1, Prod.fst (Prod.snd x1), Prod.fst (Prod.snd (Prod.snd x1)), ())) = Bool.false, P36 x0, True, (!g38_0 (g36_0 x0) (g36_0 x0)) = Bool.false, P47 (g36_0 x0) 1, List.length (u47_0 (g36_0 x0) 1) = List.length (g36_0 x0), Decidable.decide (g47_0 (g36_0 x0) 1 < 0) = Bool.false, True, (!g38_0 (g62_0 (g36_0 x0) (Prod.fst x1, Prod.fst (Prod.snd x1), Prod.fst (Prod.snd (Prod.snd x1)), ())) (g60_0 (g36_0 x0) (Prod.fst x1, Prod.fst (Prod.snd x1), Prod.fst (Prod.snd (Prod.snd x1)), ()))) = Bool.false, (g62_1 (g36_0 x0) (Prod.fst x1, Prod.fst (Prod.snd x1), Prod.fst (Prod.snd (Prod.snd x1)), ()) != g60_1 (g36_0 x0) (Prod.fst x1, Prod.fst (Prod.snd x1), Prod.fst (Prod.snd (Prod.snd x1)), ())) = Bool.false, P47 (g62_0 (g36_0 x0) (Prod.fst x1, Prod.fst (Prod.snd x1), Prod.fst (Prod.snd (Prod.snd x1)), ())) 1, List.length (u47_0 (g62_0 (g36_0 x0) (Prod.fst x1, Prod.fst (Prod.snd x1), Prod.fst (Prod.snd (Prod.snd x1)), ())) 1) = List.length (g62_0 (g36_0 x0) (Prod.fst x1, Prod.fst (Prod.snd x1), Prod.fst (Prod.snd (Prod.snd x1)), ())), P50 (u47_0 (g62_0 (g36_0 x0) (Prod.fst x1, Prod.fst (Prod.snd x1), Prod.fst (Prod.snd (Prod.snd x1)), ())) 1) 1, Decidable.decide (g50_0 (u47_0 (g62_0 (g36_0 x0) (Prod.fst x1, Prod.fst (Prod.snd x1), Prod.fst (Prod.snd (Prod.snd x1)), ())) 1) 1 < 0) = Bool.true]) := by kernel_rfl
theorem p13_7 (x0 : List (ByteArray × ByteArray × ByteArray × Unit)) (x1 : ByteArray × ByteArray × ByteArray × Unit) : runF tab ext13 false 109 [] 2000 [] tys13 Try.f13.results [false, false, false, false, false, false, false, false, false, true] [.code b13] (entE 0 0 sig13 (x0, x1, ())) (entL sig13 (x0, x1, ())) = some ([Dyn.mk Ty.bool Bool.false], [], [P34 x0 1048576, Decidable.decide (g34_0 x0 1048576 < 0) = Bool.false, P59 x1 (g34_0 x0 1048576), Decidable.decide (g59_0 x1 (g34_0 x0 1048576) < 0) = Bool.false, P36 x0, True, P60 (g36_0 x0) (Prod.fst x1, Prod.fst (Prod.snd x1), Prod.fst (Prod.snd (Prod.snd x1)), ()), P36 x0, True, P62 (g36_0 x0) (Prod.fst x1, Prod.fst (Prod.snd x1), Prod.fst (Prod.snd (Prod.snd x1)), ()), True, (!g38_0 (g62_0 (g36_0 x0) (Prod.fst x1, Prod.fst (Prod.snd x1), Prod.fst (Prod.snd (Prod.snd x1)), ())) (g60_0 (g36_0 x0) (Prod.fst x1, Prod.fst (Prod.snd x1), Prod.fst (Prod.snd (Prod.snd x1)), ()))) = Bool.false, (g62_1 (g36_0 x0) (Prod.fst x1, Prod.fst (Prod.snd x1), Prod.fst (Prod.snd (Prod.snd x1)), ()) != g60_1 (g36_0 x0) (Prod.fst x1, Prod.fst (Prod.snd x1), Prod.fst (Prod.snd (Prod.snd x1)), ())) = Bool.false, P36 x0, True, (!g38_0 (g36_0 x0) (g36_0 x0)) = Bool.false, P47 (g36_0 x0) 1, List.length (u47_0 (g36_0 x0) 1) = List.length (g36_0 x0), Decidable.decide (g47_0 (g36_0 x0) 1 < 0) = Bool.false, True, (!g38_0 (g62_0 (g36_0 x0) (Prod.fst x1, Prod.fst (Prod.snd x1), Prod.fst (Prod.snd (Prod.snd x1)), ())) (g60_0 (g36_0 x0) (Prod.fst x1, Prod.fst (Prod.snd x1), Prod.fst (Prod.snd (Prod.snd x1)), ()))) = Bool.false, (g62_1 (g36_0 x0) (Prod.fst x1, Prod.fst (Prod.snd x1), Prod.fst (Prod.snd (Prod.snd x1)), ()) != g60_1 (g36_0 x0) (Prod.fst x1, Prod.fst (Prod.snd x1), Prod.fst (Prod.snd (Prod.snd x1)), ())) = Bool.false, P47 (g62_0 (g36_0 x0) (Prod.fst x1, Prod.fst (Prod.snd x1), Prod.fst (Prod.snd (Prod.snd x1)), ())) 1, List.length (u47_0 (g62_0 (g36_0 x0) (Prod.fst x1, Prod.fst (Prod.snd x1), Prod.fst (Prod.snd (Prod.snd x1)), ())) 1) = List.length (g62_0 (g36_0 x0) (Prod.fst x1, Prod.fst (Prod.snd x1), Prod.fst (Prod.snd (Prod.snd x1)), ())), P50 (u47_0 (g62_0 (g36_0 x0) (Prod.fst x1, Prod.fst (Prod.snd x1), Prod.fst (Prod.snd (Prod.snd x1)), ())) 1) 1, Decidable.decide (g50_0 (u47_0 (g62_0 (g36_0 x0) (Prod.fst x1, Prod.fst (Prod.snd x1), Prod.fst (Prod.snd (Prod.snd x1)), ())) 1) 1 < 0) = Bool.false, (g50_0 (u47_0 (g62_0 (g36_0 x0) (Prod.fst x1, Prod.fst (Prod.snd x1), Prod.fst (Prod.snd (Prod.snd x1)), ())) 1) 1 != g47_0 (g62_0 (g36_0 x0) (Prod.fst x1, Prod.fst (Prod.snd x1), Prod.fst (Prod.snd (Prod.snd x1)), ())) 1) = Bool.true]) := by kernel_rfl
theorem p13_8 (x0 : List (ByteArray × ByteArray × ByteArray × Unit)) (x1 : ByteArray × ByteArray × ByteArray × Unit) : runF tab ext13 false 109 [] 2000 [] tys13 Try.f13.results [false, false, false, false, false, false, false, false, false, false, false, false, false, false] [.code b13] (entE 0 0 sig13 (x0, x1, ())) (entL sig13 (x0, x1, ())) = some ([Dyn.mk Ty.bool Bool.true], [], [P34 x0 1048576, Decidable.decide (g34_0 x0 1048576 < 0) = Bool.false, P59 x1 (g34_0 x0 1048576), Decidable.decide (g59_0 x1 (g34_0 x0 1048576) < 0) = Bool.false, P36 x0, True, P60 (g36_0 x0) (Prod.fst x1, Prod.fst (Prod.snd x1), Prod.fst (Prod.snd (Prod.snd x1)), ()), P36 x0, True, P62 (g36_0 x0) (Prod.fst x1, Prod.fst (Prod.snd x1), Prod.fst (Prod.snd (Prod.snd x1)), ()), True, (!g38_0 (g62_0 (g36_0 x0) (Prod.fst x1, Prod.fst (Prod.snd x1), Prod.fst (Prod.snd (Prod.snd x1)), ())) (g60_0 (g36_0 x0) (Prod.fst x1, Prod.fst (Prod.snd x1), Prod.fst (Prod.snd (Prod.snd x1)), ()))) = Bool.false, (g62_1 (g36_0 x0) (Prod.fst x1, Prod.fst (Prod.snd x1), Prod.fst (Prod.snd (Prod.snd x1)), ()) != g60_1 (g36_0 x0) (Prod.fst x1, Prod.fst (Prod.snd x1), Prod.fst (Prod.snd (Prod.snd x1)), ())) = Bool.false, P36 x0, True, (!g38_0 (g36_0 x0) (g36_0 x0)) = Bool.false, P47 (g36_0 x0) 1, List.length (u47_0 (g36_0 x0) 1) = List.length (g36_0 x0), Decidable.decide (g47_0 (g36_0 x0) 1 < 0) = Bool.false, True, (!g38_0 (g62_0 (g36_0 x0) (Prod.fst x1, Prod.fst (Prod.snd x1), Prod.fst (Prod.snd (Prod.snd x1)), ())) (g60_0 (g36_0 x0) (Prod.fst x1, Prod.fst (Prod.snd x1), Prod.fst (Prod.snd (Prod.snd x1)), ()))) = Bool.false, (g62_1 (g36_0 x0) (Prod.fst x1, Prod.fst (Prod.snd x1), Prod.fst (Prod.snd (Prod.snd x1)), ()) != g60_1 (g36_0 x0) (Prod.fst x1, Prod.fst (Prod.snd x1), Prod.fst (Prod.snd (Prod.snd x1)), ())) = Bool.false, P47 (g62_0 (g36_0 x0) (Prod.fst x1, Prod.fst (Prod.snd x1), Prod.fst (Prod.snd (Prod.snd x1)), ())) 1, List.length (u47_0 (g62_0 (g36_0 x0) (Prod.fst x1, Prod.fst (Prod.snd x1), Prod.fst (Prod.snd (Prod.snd x1)), ())) 1) = List.length (g62_0 (g36_0 x0) (Prod.fst x1, Prod.fst (Prod.snd x1), Prod.fst (Prod.snd (Prod.snd x1)), ())), P50 (u47_0 (g62_0 (g36_0 x0) (Prod.fst x1, Prod.fst (Prod.snd x1), Prod.fst (Prod.snd (Prod.snd x1)), ())) 1) 1, Decidable.decide (g50_0 (u47_0 (g62_0 (g36_0 x0) (Prod.fst x1, Prod.fst (Prod.snd x1), Prod.fst (Prod.snd (Prod.snd x1)), ())) 1) 1 < 0) = Bool.false, (g50_0 (u47_0 (g62_0 (g36_0 x0) (Prod.fst x1, Prod.fst (Prod.snd x1), Prod.fst (Prod.snd (Prod.snd x1)), ())) 1) 1 != g47_0 (g62_0 (g36_0 x0) (Prod.fst x1, Prod.fst (Prod.snd x1), Prod.fst (Prod.snd (Prod.snd x1)), ())) 1) = Bool.false, P36 x0, True, P62 (g36_0 x0) (Prod.fst x1, Prod.fst (Prod.snd x1), Prod.fst (Prod.snd (Prod.snd x1)), ()), True, (!g38_0 (g62_0 (g36_0 x0) (Prod.fst x1, Prod.fst (Prod.snd x1), Prod.fst (Prod.snd (Prod.snd x1)), ())) (g60_0 (g36_0 x0) (Prod.fst x1, Prod.fst (Prod.snd x1), Prod.fst (Prod.snd (Prod.snd x1)), ()))) = Bool.false, (g62_1 (g36_0 x0) (Prod.fst x1, Prod.fst (Prod.snd x1), Prod.fst (Prod.snd (Prod.snd x1)), ()) != g60_1 (g36_0 x0) (Prod.fst x1, Prod.fst (Prod.snd x1), Prod.fst (Prod.snd (Prod.snd x1)), ())) = Bool.false, P50 (u47_0 (g62_0 (g36_0 x0) (Prod.fst x1, Prod.fst (Prod.snd x1), Prod.fst (Prod.snd (Prod.snd x1)), ())) 1) 1, Decidable.decide (g50_0 (u47_0 (g62_0 (g36_0 x0) (Prod.fst x1, Prod.fst (Prod.snd x1), Prod.fst (Prod.snd (Prod.snd x1)), ())) 1) 1 < 0) = Bool.false, (g50_0 (u47_0 (g62_0 (g36_0 x0) (Prod.fst x1, Prod.fst (Prod.snd x1), Prod.fst (Prod.snd (Prod.snd x1)), ())) 1) 1 != g47_0 (g62_0 (g36_0 x0) (Prod.fst x1, Prod.fst (Prod.snd x1), Prod.fst (Prod.snd (Prod.snd x1)), ())) 1) = Bool.false]) := by kernel_rfl
theorem at13 (x0 : List (ByteArray × ByteArray × ByteArray × Unit)) (x1 : ByteArray × ByteArray × ByteArray × Unit) (h : P13 x0 x1) (w0 : World) (O : List Nat) (q : Nat → Value) : AtV Try.prog 13 (PostR [⟨Ty.bool, g13_0 x0 x1⟩] [] [] q w0 O) 109 w0 O q [] [.code b13] (entE 0 0 sig13 (x0, x1, ())) (entL sig13 (x0, x1, ())) := by
  unfold P13 at h
  unfold g13_0
  obtain ⟨s0, h⟩ := h
  by_cases b0 : (Decidable.decide (g34_0 x0 1048576 < 0)) = true
  · try simp only [if_pos b0] at h ⊢
    exact AtV.fin Try.func13 tabOk ext13Ok mixed (p13_0 x0 x1) ⟨s0, b0, trivial⟩
  · try simp only [if_neg b0] at h ⊢
    replace b0 := Bool.eq_false_iff.2 b0
    obtain ⟨s1, h⟩ := h
    by_cases b1 : (Decidable.decide (g59_0 x1 (g34_0 x0 1048576) < 0)) = true
    · try simp only [if_pos b1] at h ⊢
      exact AtV.fin Try.func13 tabOk ext13Ok mixed (p13_1 x0 x1) ⟨s0, b0, s1, b1, trivial⟩
    · try simp only [if_neg b1] at h ⊢
      replace b1 := Bool.eq_false_iff.2 b1
      obtain ⟨s2, h⟩ := h
      obtain ⟨s3, h⟩ := h
      obtain ⟨s4, h⟩ := h
      obtain ⟨s5, h⟩ := h
      by_cases b2 : (!g38_0 (g62_0 (g36_0 x0) (Prod.fst x1, Prod.fst (Prod.snd x1), Prod.fst (Prod.snd (Prod.snd x1)), ())) (g60_0 (g36_0 x0) (Prod.fst x1, Prod.fst (Prod.snd x1), Prod.fst (Prod.snd (Prod.snd x1)), ()))) = true
      · try simp only [if_pos b2] at h ⊢
        exact AtV.fin Try.func13 tabOk ext13Ok mixed (p13_2 x0 x1) ⟨s0, b0, s1, b1, s2, trivial, s3, s4, trivial, s5, trivial, b2, rfl, trivial⟩
      · try simp only [if_neg b2] at h ⊢
        replace b2 := Bool.eq_false_iff.2 b2
        by_cases b3 : (g62_1 (g36_0 x0) (Prod.fst x1, Prod.fst (Prod.snd x1), Prod.fst (Prod.snd (Prod.snd x1)), ()) != g60_1 (g36_0 x0) (Prod.fst x1, Prod.fst (Prod.snd x1), Prod.fst (Prod.snd (Prod.snd x1)), ())) = true
        · try simp only [if_pos b3] at h ⊢
          exact AtV.fin Try.func13 tabOk ext13Ok mixed (p13_3 x0 x1) ⟨s0, b0, s1, b1, s2, trivial, s3, s4, trivial, s5, trivial, b2, b3, trivial⟩
        · try simp only [if_neg b3] at h ⊢
          replace b3 := Bool.eq_false_iff.2 b3
          obtain ⟨s6, h⟩ := h
          by_cases b4 : (!g38_0 (g36_0 x0) (g36_0 x0)) = true
          · try simp only [if_pos b4] at h ⊢
            exact AtV.fin Try.func13 tabOk ext13Ok mixed (p13_4 x0 x1) ⟨s0, b0, s1, b1, s2, trivial, s3, s4, trivial, s5, trivial, b2, b3, s6, trivial, b4, trivial⟩
          · try simp only [if_neg b4] at h ⊢
            replace b4 := Bool.eq_false_iff.2 b4
            obtain ⟨s7, s8, h⟩ := h
            by_cases b5 : (Decidable.decide (g47_0 (g36_0 x0) 1 < 0)) = true
            · try simp only [if_pos b5] at h ⊢
              exact AtV.fin Try.func13 tabOk ext13Ok mixed (p13_5 x0 x1) ⟨s0, b0, s1, b1, s2, trivial, s3, s4, trivial, s5, trivial, b2, b3, s6, trivial, b4, s7, s8, b5, rfl, rfl, trivial⟩
            · try simp only [if_neg b5] at h ⊢
              replace b5 := Bool.eq_false_iff.2 b5
              obtain ⟨s9, s10, h⟩ := h
              obtain ⟨s11, h⟩ := h
              by_cases b6 : (Decidable.decide (g50_0 (u47_0 (g62_0 (g36_0 x0) (Prod.fst x1, Prod.fst (Prod.snd x1), Prod.fst (Prod.snd (Prod.snd x1)), ())) 1) 1 < 0)) = true
              · try simp only [if_pos b6] at h ⊢
                exact AtV.fin Try.func13 tabOk ext13Ok mixed (p13_6 x0 x1) ⟨s0, b0, s1, b1, s2, trivial, s3, s4, trivial, s5, trivial, b2, b3, s6, trivial, b4, s7, s8, b5, trivial, b2, b3, s9, s10, s11, b6, trivial⟩
              · try simp only [if_neg b6] at h ⊢
                replace b6 := Bool.eq_false_iff.2 b6
                by_cases b7 : (g50_0 (u47_0 (g62_0 (g36_0 x0) (Prod.fst x1, Prod.fst (Prod.snd x1), Prod.fst (Prod.snd (Prod.snd x1)), ())) 1) 1 != g47_0 (g62_0 (g36_0 x0) (Prod.fst x1, Prod.fst (Prod.snd x1), Prod.fst (Prod.snd (Prod.snd x1)), ())) 1) = true
                · try simp only [if_pos b7] at h ⊢
                  exact AtV.fin Try.func13 tabOk ext13Ok mixed (p13_7 x0 x1) ⟨s0, b0, s1, b1, s2, trivial, s3, s4, trivial, s5, trivial, b2, b3, s6, trivial, b4, s7, s8, b5, trivial, b2, b3, s9, s10, s11, b6, b7, trivial⟩
                · try simp only [if_neg b7] at h ⊢
                  replace b7 := Bool.eq_false_iff.2 b7
                  obtain ⟨s12, h⟩ := h
                  obtain ⟨s13, h⟩ := h
                  obtain ⟨s14, h⟩ := h
                  exact AtV.fin Try.func13 tabOk ext13Ok mixed (p13_8 x0 x1) ⟨s0, b0, s1, b1, s2, trivial, s3, s4, trivial, s5, trivial, b2, b3, s6, trivial, b4, s7, s8, b5, trivial, b2, b3, s9, s10, s11, b6, b7, s12, trivial, s13, trivial, b2, b3, s14, b6, b7, trivial⟩

def S13 : Am.Spec := { sig := sig13, pre := fun ⟨x0, x1, _⟩ => P13 x0 x1, res := fun ⟨x0, x1, _⟩ => [⟨Ty.bool, g13_0 x0 x1⟩] }
theorem con13 : Contract Try.prog 13 S13 := contract_of Try.func13 hb13 (Nat.le_of_ble_eq_true (by kernel_rfl)) (fun ⟨x0, x1, _⟩ h _ w0 O q => at13 x0 x1 h w0 O q)


end Go.Proofs.Ytjkeinpcphkfbaa

/- A law that says how functions of the program and of the specification hang together. -/
set_option linter.unusedVariables false
set_option linter.unusedSimpArgs false
set_option maxRecDepth 100000
namespace Go.Proofs.Ytjkeinpcphkfbaa
open Go Go.Am Go.Proofs

theorem name_eq (s : ByteArray) : g116_0 s = g131_0 s := by
  have hs : ∀ c, g153_0 c = (decide (97 ≤ c) && decide (c ≤ 122)) := fun c => by
    unfold g153_0
    by_cases h1 : (97 : Int) ≤ c <;> simp [h1]
  have hd : ∀ c, g154_0 c = (decide (48 ≤ c) && decide (c ≤ 57)) := fun c => by
    unfold g154_0
    by_cases h1 : (48 : Int) ≤ c <;> simp [h1]
  unfold g116_0 g131_0
  have hl := bytesOf_length s
  by_cases h1 : 1 ≤ s.size
  · cases hb : bytesOf s with
    | nil => rw [hb] at hl; simp at hl; omega
    | cons c r =>
      have hr : allI ok116 1 r = r.all fun b => g153_0 b || g154_0 b := by
        rw [← allI_plain (fun b => g153_0 b || g154_0 b) r 1]
        refine allI_congr r 1 fun j x hj => ?_
        have : (j == 0) = false := by simp; omega
        simp only [ok116, this, hs, hd, Bool.not_false, Bool.true_and]
      have h0 : ok116 0 c = g153_0 c := by simp [ok116, hs]
      simp only [allI, hr, h0, List.all_cons, List.getD_cons_zero]
      cases g153_0 c <;> simp
  · simp [h1]

theorem index_one (c : UInt8) : ∀ s : List UInt8, Lib.index s [c] = Lib.indexByte s c
  | [] => rfl
  | b :: l => by
    have e : (List.isPrefixOf [c] (b :: l)) = (b == c) := by
      simp only [List.isPrefixOf, Bool.and_true]
      exact Bool.beq_comm
    rw [Lib.index, Lib.indexByte, index_one c l, e]

theorem contains_one (s : List UInt8) (c : UInt8) : Lib.contains s [c] = s.contains c := by
  rw [Lib.contains_iff_indexByte, Lib.contains, index_one]

theorem contains_nl (s : ByteArray) : (!g82_0 s (ByteArray.mk #[10])) = (bytesOf s).all fun b => !(b == 10) := by
  unfold g82_0
  rw [show (ByteArray.mk #[10]).data.toList = [10] from rfl, contains_one]
  show (!s.data.toList.contains 10) = ((s.data.toList.map fun b => (b.toNat : Int)).all fun b => !(b == 10))
  induction s.data.toList with
  | nil => rfl
  | cons c r ih =>
    rw [List.contains_cons, Bool.not_or, ih, List.map_cons, List.all_cons]
    congr 2
    by_cases h : c = 10
    · subst h; rfl
    · have h1 : ((10 : UInt8) == c) = false := by simp; exact fun e => h e.symm
      have h2 : ((c.toNat : Int) == 10) = false := by
        rw [beq_eq_false_iff_ne]
        intro e
        exact h (UInt8.toNat_inj.1 (by show c.toNat = 10; omega))
      rw [h1, h2]

theorem block_eq (x : ByteArray × ByteArray × ByteArray × Unit) : g84_0 x = g105_0 x := by
  obtain ⟨a, b, t, u⟩ := x
  unfold g84_0 g105_0
  simp only [name_eq, ← contains_nl]
  have hc : decide ((t.size : Int) ≤ 400) = decide (t.size ≤ 400) := by
    congr 1; exact propext ⟨fun h => by omega, fun h => by omega⟩
  rw [hc]
  cases g131_0 a <;> cases g131_0 b <;> cases decide (t.size ≤ 400) <;> cases g82_0 t (ByteArray.mk #[10]) <;> rfl

end Go.Proofs.Ytjkeinpcphkfbaa

/- A law that says how functions of the program and of the specification hang together. -/
set_option linter.unusedVariables false
set_option linter.unusedSimpArgs false
set_option maxRecDepth 100000
namespace Go.Proofs.Ytjkeinpcphkfbaa
open Go Go.Am Go.Proofs

theorem nan (s : ByteArray) : g136_0 s = false := by simp [g136_0]

theorem cmp_str (a b : ByteArray) : g118_0 a b = if Op.bytesLess (ByteArray.toList a) (ByteArray.toList b) = true then -1 else if (ByteArray.toList a == ByteArray.toList b) = true then 0 else 1 := by
  unfold g118_0
  simp only [nan, Bool.false_eq_true, if_false]
  cases Op.bytesLess (ByteArray.toList a) (ByteArray.toList b) <;> cases (ByteArray.toList a == ByteArray.toList b) <;> rfl

theorem before_cmp (a b : ByteArray × ByteArray × ByteArray × Unit) : (!decide (g85_0 a b ≥ 0)) = g115_0 a b := by
  unfold g85_0 g115_0
  simp only [g117_0, cmp_str]
  cases Op.bytesLess (ByteArray.toList a.1) (ByteArray.toList b.1) <;> cases (ByteArray.toList a.1 == ByteArray.toList b.1) <;> cases Op.bytesLess (ByteArray.toList a.2.1) (ByteArray.toList b.2.1) <;> cases (ByteArray.toList a.2.1 == ByteArray.toList b.2.1) <;> decide

theorem blocks_eq (x : List (ByteArray × ByteArray × ByteArray × Unit)) : g37_0 x = g83_0 x := by
  unfold g37_0 g83_0
  congr 1
  refine allI_congr x 0 fun j y _ => ?_
  unfold ok37 ok83
  rw [block_eq, before_cmp]

end Go.Proofs.Ytjkeinpcphkfbaa

/- A law that says how functions of the program and of the specification hang together. -/
set_option linter.unusedVariables false
set_option linter.unusedSimpArgs false
set_option maxRecDepth 100000
namespace Go.Proofs.Ytjkeinpcphkfbaa
open Go Go.Am Go.Proofs

theorem before_iff (a b : (ByteArray × ByteArray × ByteArray × Unit)) : g115_0 a b = true ↔ sless a.1 b.1 = true ∨ (a.1 = b.1 ∧ sless a.2.1 b.2.1 = true) := by
  unfold g115_0 sless
  have e := bytes_eq a.1 b.1
  cases h1 : Op.bytesLess (ByteArray.toList a.1) (ByteArray.toList b.1) with
  | true => simp
  | false =>
    cases h2 : (ByteArray.toList a.1 == ByteArray.toList b.1) with
    | true => rw [h2] at e; simp [e.1 rfl]
    | false =>
      rw [h2] at e
      have : a.1 ≠ b.1 := fun h => by have := e.2 h; cases this
      simp [this]

theorem before_trans {a b c : (ByteArray × ByteArray × ByteArray × Unit)} (h1 : g115_0 a b = true) (h2 : g115_0 b c = true) : g115_0 a c = true := by
  rw [before_iff] at *
  rcases h1 with h1 | ⟨e1, h1⟩
  · rcases h2 with h2 | ⟨e2, h2⟩
    · exact .inl (sless_trans h1 h2)
    · exact .inl (by rw [← e2]; exact h1)
  · rcases h2 with h2 | ⟨e2, h2⟩
    · exact .inl (by rw [e1]; exact h2)
    · exact .inr ⟨e1.trans e2, sless_trans h1 h2⟩

/-- Two blocks of one kind and name. -/
def twins (a b : (ByteArray × ByteArray × ByteArray × Unit)) : Prop := a.1 = b.1 ∧ a.2.1 = b.2.1

theorem before_twins {a b : (ByteArray × ByteArray × ByteArray × Unit)} (h : twins a b) : g115_0 a b = false := by
  rw [Bool.eq_false_iff]
  intro hb
  rw [before_iff, h.1, h.2, sless_irrefl, sless_irrefl] at hb
  simp at hb

theorem before_left {a b c : (ByteArray × ByteArray × ByteArray × Unit)} (h : twins b c) (hb : g115_0 a b = true) : g115_0 a c = true := by
  rw [before_iff] at *
  rw [← h.1, ← h.2]
  exact hb

theorem before_tri {a b : (ByteArray × ByteArray × ByteArray × Unit)} (h1 : g115_0 a b = false) (h2 : ¬ twins a b) : g115_0 b a = true := by
  rw [Bool.eq_false_iff, ne_eq, before_iff, not_or] at h1
  rw [before_iff]
  cases h3 : sless b.1 a.1 with
  | true => exact .inl rfl
  | false =>
    have e : a.1 = b.1 := sless_tri (Bool.eq_false_iff.2 h1.1) h3
    refine .inr ⟨e.symm, ?_⟩
    cases h4 : sless b.2.1 a.2.1 with
    | true => rfl
    | false =>
      exfalso
      refine h2 ⟨e, sless_tri (Bool.eq_false_iff.2 fun h => h1.2 ⟨e, h⟩) h4⟩

theorem cmp_lt (a b : (ByteArray × ByteArray × ByteArray × Unit)) : decide (g85_0 a b < 0) = g115_0 a b := by
  rw [← before_cmp]
  by_cases h : g85_0 a b < 0
  · have : ¬ g85_0 a b ≥ 0 := by omega
    simp [h]
  · have : g85_0 a b ≥ 0 := by omega
    simp [h, this]

theorem cmp_eq (a b : (ByteArray × ByteArray × ByteArray × Unit)) : (g85_0 a b == 0) = true ↔ twins a b := by
  unfold twins g85_0
  simp only [g117_0, cmp_str]
  rw [← bytes_eq, ← bytes_eq]
  have irr : ∀ s t : ByteArray, (ByteArray.toList s == ByteArray.toList t) = true → Op.bytesLess (ByteArray.toList s) (ByteArray.toList t) = false := fun s t h => by
    rw [(bytes_eq s t).1 h]; exact bl_irrefl _
  cases h1 : (ByteArray.toList a.1 == ByteArray.toList b.1) with
  | true =>
    rw [irr _ _ h1]
    cases h2 : (ByteArray.toList a.2.1 == ByteArray.toList b.2.1) with
    | true => rw [irr _ _ h2]; decide
    | false => cases Op.bytesLess (ByteArray.toList a.2.1) (ByteArray.toList b.2.1) <;> decide
  | false => cases Op.bytesLess (ByteArray.toList a.1) (ByteArray.toList b.1) <;> simp

/-- The blocks of a valid list rise. -/
theorem allI_get {α : Type} {q : Nat → α → Bool} : ∀ {l : List α} {i : Nat}, allI q i l = true → ∀ (j : Nat) (h : j < l.length), q (i + j) l[j] = true
  | x :: r, i, h, j, hj => by
    simp only [allI, Bool.and_eq_true] at h
    cases j with
    | zero => exact h.1
    | succ j =>
      have := allI_get h.2 j (by simpa using hj)
      rw [show i + (j + 1) = i + 1 + j from by omega]
      exact this
  | [], _, _, j, hj => by cases hj

theorem sorted (x : List (ByteArray × ByteArray × ByteArray × Unit)) (h : g83_0 x = true) : x.length ≤ 32 ∧ ∀ i j : Nat, i < j → (hj : j < x.length) → g115_0 (x.getD i (ByteArray.empty, ByteArray.empty, ByteArray.empty, ())) (x.getD j (ByteArray.empty, ByteArray.empty, ByteArray.empty, ())) = true := by
  unfold g83_0 at h
  simp only [Bool.and_eq_true, decide_eq_true_eq] at h
  refine ⟨h.2, ?_⟩
  have step : ∀ j : Nat, j + 1 < x.length → g115_0 (x.getD j (ByteArray.empty, ByteArray.empty, ByteArray.empty, ())) (x.getD (j + 1) (ByteArray.empty, ByteArray.empty, ByteArray.empty, ())) = true := fun j hj => by
    have := allI_get h.1 (j + 1) hj
    rw [Nat.zero_add] at this
    unfold ok83 at this
    simp only [Bool.and_eq_true, Nat.add_sub_cancel] at this
    rw [getD_lt x (j + 1) _ hj]
    simpa using this.2
  intro i j hij
  induction j with
  | zero => omega
  | succ j ih =>
    intro hj
    rcases Nat.lt_or_ge i j with hlt | hge
    · exact before_trans (ih hlt (by omega)) (step j hj)
    · have : i = j := by omega
      subst this
      exact step i hj

end Go.Proofs.Ytjkeinpcphkfbaa

/- A law that says how functions of the program and of the specification hang together. -/
set_option linter.unusedVariables false
set_option linter.unusedSimpArgs false
set_option maxRecDepth 100000
namespace Go.Proofs.Ytjkeinpcphkfbaa
open Go Go.Am Go.Proofs

theorem bsearch_at (p : Nat → Bool) (k N : Nat) (hk : ∀ i, i < N → p i = decide (i < k)) : ∀ (m i j : Nat), j - i < m → i ≤ k → k ≤ j → j ≤ N → bsearch p m i j = k
  | 0, i, j, h, _, _, _ => by omega
  | m + 1, i, j, h, h1, h2, h3 => by
    simp only [bsearch]
    split
    · rw [hk _ (by omega)]
      split
      · rename_i h4
        simp only [decide_eq_true_eq] at h4
        exact bsearch_at p k N hk m _ _ (by omega) (by omega) h2 h3
      · rename_i h4
        simp only [decide_eq_true_eq] at h4
        exact bsearch_at p k N hk m _ _ (by omega) h1 (by omega) (by omega)
    · omega

theorem cut_at (p : Nat → Bool) : ∀ N : Nat, (∀ i j, i < j → j < N → p j = true → p i = true) → ∃ k, k ≤ N ∧ ∀ i, i < N → p i = decide (i < k)
  | 0, _ => ⟨0, Nat.le_refl _, fun i h => by omega⟩
  | N + 1, hm => by
    obtain ⟨k, h1, h2⟩ := cut_at p N (fun i j hij hj => hm i j hij (by omega))
    cases hp : p N with
    | true =>
      refine ⟨N + 1, Nat.le_refl _, fun i hi => ?_⟩
      rw [decide_eq_true hi]
      rcases Nat.lt_or_ge i N with h | h
      · exact hm i N h (by omega) hp
      · rw [show i = N from by omega]; exact hp
    | false =>
      refine ⟨k, by omega, fun i hi => ?_⟩
      rcases Nat.lt_or_ge i N with h | h
      · exact h2 i h
      · rw [show i = N from by omega, hp, decide_eq_false (by omega)]

end Go.Proofs.Ytjkeinpcphkfbaa

/- A law that says how functions of the program and of the specification hang together. -/
set_option linter.unusedVariables false
set_option linter.unusedSimpArgs false
set_option maxRecDepth 100000
namespace Go.Proofs.Ytjkeinpcphkfbaa
open Go Go.Am Go.Proofs

/-- In order, whatever the length. -/
def Srt (x : List (ByteArray × ByteArray × ByteArray × Unit)) : Prop := ∀ i j : Nat, i < j → j < x.length → g115_0 (x.getD i (ByteArray.empty, ByteArray.empty, ByteArray.empty, ())) (x.getD j (ByteArray.empty, ByteArray.empty, ByteArray.empty, ())) = true

theorem placeS (x : List (ByteArray × ByteArray × ByteArray × Unit)) (t : (ByteArray × ByteArray × ByteArray × Unit)) (hs : Srt x) :
    k126c85 x t ≤ x.length ∧
    (∀ i, i < k126c85 x t → g115_0 (x.getD i (ByteArray.empty, ByteArray.empty, ByteArray.empty, ())) t = true) ∧
    (∀ i, k126c85 x t ≤ i → i < x.length → g115_0 (x.getD i (ByteArray.empty, ByteArray.empty, ByteArray.empty, ())) t = false) := by
  have hp : ∀ i, p126c85 x t i = g115_0 (x.getD i (ByteArray.empty, ByteArray.empty, ByteArray.empty, ())) t := fun i => cmp_lt _ _
  obtain ⟨k, hk1, hk2⟩ := cut_at (p126c85 x t) x.length (fun i j hij hj h => by
    rw [hp] at h ⊢
    exact before_trans (hs i j hij hj) h)
  have e : k126c85 x t = k := bsearch_at _ k x.length hk2 _ _ _ (by omega) (by omega) hk1 (Nat.le_refl _)
  rw [e]
  refine ⟨hk1, fun i hi => ?_, fun i hi hl => ?_⟩
  · rw [← hp, hk2 i (by omega)]; simpa using hi
  · rw [← hp, hk2 i hl]; simpa using hi

theorem twinB (y t : (ByteArray × ByteArray × ByteArray × Unit)) : (ByteArray.toList y.1 == ByteArray.toList t.1 && ByteArray.toList y.2.1 == ByteArray.toList t.2.1) = true ↔ twins y t := by
  unfold twins
  rw [Bool.and_eq_true, bytes_eq, bytes_eq]

theorem put_low (t : (ByteArray × ByteArray × ByteArray × Unit)) : ∀ (l h : List (ByteArray × ByteArray × ByteArray × Unit)), (∀ y ∈ l, g115_0 y t = true) → l.foldl (st106 t) (h, false) = (h ++ l, false)
  | [], h, _ => by simp
  | y :: r, h, hl => by
    have hb := hl y (List.mem_cons_self ..)
    have ht : ¬ twins y t := fun h => by rw [before_twins h] at hb; cases hb
    have hf : (ByteArray.toList y.1 == ByteArray.toList t.1 && ByteArray.toList y.2.1 == ByteArray.toList t.2.1) = false := Bool.eq_false_iff.2 fun h => ht ((twinB y t).1 h)
    have e : st106 t (h, false) y = (h ++ [y], false) := by
      unfold st106
      rw [hf, hb]
      rfl
    rw [List.foldl_cons, e, put_low t r (h ++ [y]) (fun z hz => hl z (List.mem_cons_of_mem _ hz))]
    simp

theorem put_high (t : (ByteArray × ByteArray × ByteArray × Unit)) : ∀ (l h : List (ByteArray × ByteArray × ByteArray × Unit)), (∀ y ∈ l, ¬ twins y t) → l.foldl (st106 t) (h, true) = (h ++ l, true)
  | [], h, _ => by simp
  | y :: r, h, hl => by
    have ht := hl y (List.mem_cons_self ..)
    have hf : (ByteArray.toList y.1 == ByteArray.toList t.1 && ByteArray.toList y.2.1 == ByteArray.toList t.2.1) = false := Bool.eq_false_iff.2 fun h => ht ((twinB y t).1 h)
    have e : st106 t (h, true) y = (h ++ [y], true) := by
      unfold st106
      rw [hf]
      rfl
    rw [List.foldl_cons, e, put_high t r (h ++ [y]) (fun z hz => hl z (List.mem_cons_of_mem _ hz))]
    simp

theorem mem_take_get {x : List (ByteArray × ByteArray × ByteArray × Unit)} {K : Nat} {y : (ByteArray × ByteArray × ByteArray × Unit)} (h : y ∈ x.take K) : ∃ i, i < K ∧ i < x.length ∧ y = x.getD i (ByteArray.empty, ByteArray.empty, ByteArray.empty, ()) := by
  obtain ⟨i, hi, rfl⟩ := List.mem_iff_getElem.1 h
  rw [List.length_take] at hi
  exact ⟨i, by omega, by omega, by rw [List.getElem_take, getD_lt _ _ _ (by omega)]⟩

theorem mem_drop_get {x : List (ByteArray × ByteArray × ByteArray × Unit)} {K : Nat} {y : (ByteArray × ByteArray × ByteArray × Unit)} (h : y ∈ x.drop K) : ∃ i, K ≤ i ∧ i < x.length ∧ y = x.getD i (ByteArray.empty, ByteArray.empty, ByteArray.empty, ()) := by
  obtain ⟨i, hi, rfl⟩ := List.mem_iff_getElem.1 h
  rw [List.length_drop] at hi
  exact ⟨K + i, by omega, by omega, by rw [List.getElem_drop, getD_lt _ _ _ (by omega)]⟩


open Classical in
theorem put_at (x : List (ByteArray × ByteArray × ByteArray × Unit)) (t : (ByteArray × ByteArray × ByteArray × Unit)) (hs : Srt x) (K : Nat) (hK : K ≤ x.length) (h1 : ∀ i, i < K → g115_0 (x.getD i (ByteArray.empty, ByteArray.empty, ByteArray.empty, ())) t = true) (h2 : ∀ i, K ≤ i → i < x.length → g115_0 (x.getD i (ByteArray.empty, ByteArray.empty, ByteArray.empty, ())) t = false) :
    g106_0 x t = if K < x.length ∧ twins (x.getD K (ByteArray.empty, ByteArray.empty, ByteArray.empty, ())) t then x.take K ++ t :: x.drop (K + 1) else x.take K ++ t :: x.drop K := by
  unfold g106_0
  have e : x.foldl (st106 t) ([], false) = (x.drop K).foldl (st106 t) (x.take K, false) := by
    conv => lhs; rw [← List.take_append_drop K x]
    rw [List.foldl_append, put_low t _ _ (fun y hy => by
      obtain ⟨i, hi, _, rfl⟩ := mem_take_get hy
      exact h1 i hi)]
    rfl
  rw [e]
  by_cases hlt : K < x.length
  · have hd : x.drop K = x.getD K (ByteArray.empty, ByteArray.empty, ByteArray.empty, ()) :: x.drop (K + 1) := drop_get x K _ hlt
    have hb := h2 K (Nat.le_refl _) hlt
    have hrest : ∀ y ∈ x.drop (K + 1), ¬ twins y t := fun y hy ht => by
      obtain ⟨i, hi, hl, rfl⟩ := mem_drop_get hy
      have := before_left ht (hs K i (by omega) hl)
      rw [hb] at this
      cases this
    rw [hd, List.foldl_cons]
    by_cases htw : twins (x.getD K (ByteArray.empty, ByteArray.empty, ByteArray.empty, ())) t
    · have e2 : st106 t (x.take K, false) (x.getD K (ByteArray.empty, ByteArray.empty, ByteArray.empty, ())) = (x.take K ++ [t], true) := by
        unfold st106
        rw [(twinB _ t).2 htw, hb]
        rfl
      rw [e2, put_high t _ _ hrest, if_pos ⟨hlt, htw⟩]
      simp [fin106]
    · have hf : (ByteArray.toList (x.getD K (ByteArray.empty, ByteArray.empty, ByteArray.empty, ())).1 == ByteArray.toList t.1 && ByteArray.toList (x.getD K (ByteArray.empty, ByteArray.empty, ByteArray.empty, ())).2.1 == ByteArray.toList t.2.1) = false := Bool.eq_false_iff.2 fun h => htw ((twinB _ t).1 h)
      have e2 : st106 t (x.take K, false) (x.getD K (ByteArray.empty, ByteArray.empty, ByteArray.empty, ())) = (x.take K ++ [t] ++ [x.getD K (ByteArray.empty, ByteArray.empty, ByteArray.empty, ())], true) := by
        unfold st106
        rw [hf, hb]
        rfl
      rw [e2, put_high t _ _ hrest, if_neg (fun h => htw h.2)]
      simp [fin106]
  · have : K = x.length := by omega
    rw [List.drop_of_length_le (by omega), if_neg (fun h => hlt h.1)]
    simp [fin106]

theorem before_right {a b c : (ByteArray × ByteArray × ByteArray × Unit)} (h : twins a b) (hb : g115_0 a c = true) : g115_0 b c = true := by
  rw [before_iff] at *
  rw [← h.1, ← h.2]
  exact hb

theorem srt_join {a b : List (ByteArray × ByteArray × ByteArray × Unit)} {t : (ByteArray × ByteArray × ByteArray × Unit)} (ha : Srt a) (hb : Srt b) (h1 : ∀ y ∈ a, g115_0 y t = true) (h2 : ∀ y ∈ b, g115_0 t y = true) : Srt (a ++ t :: b) := by
  have get : ∀ i, i < (a ++ t :: b).length → (i < a.length ∧ (a ++ t :: b).getD i (ByteArray.empty, ByteArray.empty, ByteArray.empty, ()) = a.getD i (ByteArray.empty, ByteArray.empty, ByteArray.empty, ())) ∨ (i = a.length ∧ (a ++ t :: b).getD i (ByteArray.empty, ByteArray.empty, ByteArray.empty, ()) = t) ∨ (a.length < i ∧ i - a.length - 1 < b.length ∧ (a ++ t :: b).getD i (ByteArray.empty, ByteArray.empty, ByteArray.empty, ()) = b.getD (i - a.length - 1) (ByteArray.empty, ByteArray.empty, ByteArray.empty, ())) := fun i hi => by
    simp only [List.length_append, List.length_cons] at hi
    rw [List.getD_eq_getElem?_getD]
    rcases Nat.lt_trichotomy i a.length with h | h | h
    · left; refine ⟨h, ?_⟩; rw [List.getElem?_append_left h, List.getD_eq_getElem?_getD]
    · right; left; refine ⟨h, ?_⟩; rw [List.getElem?_append_right (by omega), h, Nat.sub_self]; rfl
    · right; right
      obtain ⟨m, hm⟩ : ∃ m, i - a.length = m + 1 := ⟨i - a.length - 1, by omega⟩
      refine ⟨h, by omega, ?_⟩
      rw [List.getElem?_append_right (by omega), hm, List.getElem?_cons_succ, Nat.add_sub_cancel, List.getD_eq_getElem?_getD]
  have mem : ∀ (l : List (ByteArray × ByteArray × ByteArray × Unit)) i, i < l.length → l.getD i (ByteArray.empty, ByteArray.empty, ByteArray.empty, ()) ∈ l := fun l i hi => by rw [getD_lt _ _ _ hi]; exact List.getElem_mem _
  intro i j hij hj
  rcases get i (by omega) with ⟨i1, ei⟩ | ⟨i1, ei⟩ | ⟨i1, i2, ei⟩ <;> rcases get j hj with ⟨j1, ej⟩ | ⟨j1, ej⟩ | ⟨j1, j2, ej⟩ <;> rw [ei, ej]
  · exact ha i j hij j1
  · exact h1 _ (mem a i i1)
  · exact before_trans (h1 _ (mem a i i1)) (h2 _ (mem b _ j2))
  · omega
  · omega
  · exact h2 _ (mem b _ j2)
  · omega
  · omega
  · exact hb _ _ (by omega) j2

theorem srt_take {x : List (ByteArray × ByteArray × ByteArray × Unit)} (h : Srt x) (K : Nat) : Srt (x.take K) := fun i j hij hj => by
  rw [List.length_take] at hj
  have := h i j hij (by omega)
  rw [getD_lt _ _ _ (by omega), getD_lt _ _ _ (by omega)] at this
  rw [getD_lt _ _ _ (by rw [List.length_take]; omega), getD_lt _ _ _ (by rw [List.length_take]; omega), List.getElem_take, List.getElem_take]
  exact this

theorem srt_drop {x : List (ByteArray × ByteArray × ByteArray × Unit)} (h : Srt x) (K : Nat) : Srt (x.drop K) := fun i j hij hj => by
  rw [List.length_drop] at hj
  have := h (K + i) (K + j) (by omega) (by omega)
  rw [getD_lt _ _ _ (by omega), getD_lt _ _ _ (by omega)] at this
  rw [getD_lt _ _ _ (by rw [List.length_drop]; omega), getD_lt _ _ _ (by rw [List.length_drop]; omega), List.getElem_drop, List.getElem_drop]
  exact this

/-- Both put a block alike, and in order it stays. -/
theorem put_eq (x : List (ByteArray × ByteArray × ByteArray × Unit)) (t : (ByteArray × ByteArray × ByteArray × Unit)) (hs : Srt x) : g107_0 x t = g106_0 x t ∧ Srt (g106_0 x t) := by
  obtain ⟨p1, p2, p3⟩ := placeS x t hs
  have e := put_at x t hs _ p1 p2 p3
  have eb : g94_1 x t = true ↔ k126c85 x t < x.length ∧ twins (x.getD (k126c85 x t) (ByteArray.empty, ByteArray.empty, ByteArray.empty, ())) t := by
    unfold g94_1 g126c85_1 f126c85
    by_cases h : k126c85 x t < x.length
    · rw [if_pos h, cmp_eq]; exact ⟨fun hh => ⟨h, hh⟩, fun hh => hh.2⟩
    · rw [if_neg h]; exact ⟨fun hh => (by cases hh), fun hh => absurd hh.1 h⟩
  have e0 : g94_0 x t = ((k126c85 x t : Nat) : Int) := rfl
  generalize k126c85 x t = K at *
  rw [e]
  constructor
  · show (if g94_1 x t = true then x.set (g94_0 x t).toNat t else g132_0 x (g94_0 x t) [t]) = _
    rw [e0]
    by_cases h : K < x.length ∧ twins (x.getD K (ByteArray.empty, ByteArray.empty, ByteArray.empty, ())) t
    · rw [if_pos (eb.2 h), if_pos h, Int.toNat_natCast, List.set_eq_take_append_cons_drop, if_pos h.1]
    · rw [if_neg (fun hh => h (eb.1 hh)), if_neg h]
      unfold g132_0
      rw [Int.toNat_natCast]
      rfl
  · have low : ∀ y ∈ x.take K, g115_0 y t = true := fun y hy => by
      obtain ⟨i, hi, _, rfl⟩ := mem_take_get hy
      exact p2 i hi
    split
    · rename_i h
      refine srt_join (srt_take hs K) (srt_drop hs _) low (fun y hy => ?_)
      obtain ⟨i, hi, hl, rfl⟩ := mem_drop_get hy
      exact before_right h.2 (hs K i (by omega) hl)
    · rename_i h
      refine srt_join (srt_take hs K) (srt_drop hs _) low (fun y hy => ?_)
      obtain ⟨i, hi, hl, rfl⟩ := mem_drop_get hy
      refine before_tri (p3 i hi hl) (fun ht => ?_)
      rcases Nat.lt_or_ge K i with hlt | hge
      · have := before_left ht (hs K i hlt hl)
        rw [p3 K (Nat.le_refl _) (by omega)] at this
        cases this
      · have : i = K := by omega
        subst this
        exact h ⟨hl, ht⟩

end Go.Proofs.Ytjkeinpcphkfbaa

/- A law that says how functions of the program and of the specification hang together. -/
set_option linter.unusedVariables false
set_option linter.unusedSimpArgs false
set_option maxRecDepth 100000
namespace Go.Proofs.Ytjkeinpcphkfbaa
open Go Go.Am Go.Proofs

theorem putBlock_eq (x : List (ByteArray × ByteArray × ByteArray × Unit)) (t : (ByteArray × ByteArray × ByteArray × Unit)) : P62 x t ∧ P60 x t ∧ g62_0 x t = g60_0 x t ∧ g62_1 x t = g60_1 x t ∧ (g60_0 x t).length ≤ 32 := by
  unfold P62 P60 g62_0 g60_0 g62_1 g60_1
  rw [blocks_eq, block_eq]
  have pb : P84 t := pre84 t
  cases h : g83_0 x with
  | false => simp
  | true =>
    cases h2 : g105_0 t with
    | false => simp [pb]
    | true =>
      obtain ⟨hl, hs⟩ := sorted x h
      obtain ⟨e, _⟩ := put_eq x t (fun i j hij hj => hs i j hij hj)
      have p1 : P107 x t := pre107 x t (by omega)
      have p2 : P106 x t := (show x.length ≤ 1048576 from by omega)
      simp only [Bool.not_true, Bool.false_eq_true, if_false, pb, p1, p2, e, true_and, and_self]
      by_cases h3 : ((g106_0 x t).length : Int) > 32
      · simp only [h3, decide_true, if_true]
        exact Nat.zero_le _
      · simp only [h3, decide_false, Bool.false_eq_true, if_false]
        omega

end Go.Proofs.Ytjkeinpcphkfbaa

/- A law that says how functions of the program and of the specification hang together. -/
set_option linter.unusedVariables false
set_option linter.unusedSimpArgs false
set_option maxRecDepth 100000
namespace Go.Proofs.Ytjkeinpcphkfbaa
open Go Go.Am Go.Proofs

theorem marked_blk (xs : List (ByteArray × ByteArray × ByteArray × Unit)) (h : xs.length ≤ 1048576) : P47 xs 1 ∧ (u47_0 xs 1).length = xs.length ∧ ¬ g47_0 xs 1 < 0 := by
  have hl : (u47_0 xs 1).length = xs.length := by rw [u47_0, M47_len]
  refine ⟨⟨by omega, by omega⟩, hl, ?_⟩
  unfold g47_0
  omega

theorem marked2_blk (xs ys : List (ByteArray × ByteArray × ByteArray × Unit)) (h : xs.length + ys.length ≤ 1048576) : P47 ys (g47_0 xs 1) ∧ (u47_0 ys (g47_0 xs 1)).length = ys.length ∧ ¬ g47_0 ys (g47_0 xs 1) < 0 := by
  have hl : (u47_0 ys (g47_0 xs 1)).length = ys.length := by rw [u47_0, M47_len]
  refine ⟨⟨?_, ?_⟩, hl, ?_⟩ <;> unfold g47_0 <;> omega

end Go.Proofs.Ytjkeinpcphkfbaa

/- A law that says how functions of the program and of the specification hang together. -/
set_option linter.unusedVariables false
set_option linter.unusedSimpArgs false
set_option maxRecDepth 100000
namespace Go.Proofs.Ytjkeinpcphkfbaa
open Go Go.Am Go.Proofs

theorem held_blk (xs : List (ByteArray × ByteArray × ByteArray × Unit)) (h : xs.length ≤ 1048576) : P50 (u47_0 xs 1) 1 ∧ g50_0 (u47_0 xs 1) 1 = g47_0 xs 1 := by
  have hl : (u47_0 xs 1).length = xs.length := by rw [u47_0, M47_len]
  refine ⟨⟨⟨by omega, by rw [hl]; omega⟩, fun i hi => ?_⟩, ?_⟩
  · rw [hl] at hi
    rw [getD_lt _ _ _ (by rw [hl]; exact hi)]
    simp [u47_0, M47]
  · unfold g50_0 g47_0
    rw [hl]

end Go.Proofs.Ytjkeinpcphkfbaa

/- The plain law of FnExactPutBlock. -/
set_option linter.unusedVariables false
set_option linter.unusedSimpArgs false
set_option maxRecDepth 100000
namespace Go.Proofs.Ytjkeinpcphkfbaa
open Go Go.Am Go.Proofs

theorem law13 (x : List (ByteArray × ByteArray × ByteArray × Unit)) (b : (ByteArray × ByteArray × ByteArray × Unit)) (hw : Wf (.sl (.cons .str (.cons .str (.cons .str .unit)))) x) (hb : Wf (.cons .str (.cons .str (.cons .str .unit))) b) : P13 x b ∧ g13_0 x b = true := by
  unfold P13 g13_0
  have hz : P34 x 1048576 := (show (0 : Int) ≤ 1048576 from by decide)
  by_cases h : g34_0 x 1048576 < 0
  · simp only [h, hz, decide_true, decide_false, Bool.false_eq_true, if_false, if_true, and_true, true_and]
  · have hs := g34_le x 1048576 (by decide) (by decide) hw h
    have hz2 := (sz59 b (g34_0 x 1048576) (by omega) (by rw [i64_iff]; omega) hb).1
    by_cases h2 : g59_0 b (g34_0 x 1048576) < 0
    · simp only [h, h2, hz, hz2, decide_true, decide_false, Bool.false_eq_true, if_false, if_true, and_true, true_and]
    · have hp : P36 x := by
        show 48 * (x.length : Int) ≤ 281474976710656
        omega
      obtain ⟨b1, b2, b3, b4⟩ := b
      obtain ⟨q1, q2, e0, e1, hl⟩ := putBlock_eq x (b1, b2, b3, ())
      obtain ⟨b1', b2', b3'⟩ := marked_blk x (by omega)
      obtain ⟨c1, c2, c3⟩ := marked_blk (g60_0 x (b1, b2, b3, ())) (by omega)
      obtain ⟨d1, d2⟩ := held_blk (g60_0 x (b1, b2, b3, ())) (by omega)
      simp only [h, h2, decide_false, Bool.false_eq_true, if_false, g36_0, e0, e1, q1, q2, g38_0, decide_true, Bool.not_true, bne_self_eq_false, beq_self_eq_true, b1', b2', b3', c1, c2, c3, d1, d2, hp, hz, hz2, true_and, and_self]

end Go.Proofs.Ytjkeinpcphkfbaa
