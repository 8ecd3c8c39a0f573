/- Several texts in one: the functions that this law reaches, and their laws. -/
import Derived.Test.YtleifkpekoinlaaZ3A
import Derived.Test.YtleifkpekoinlaaZ3B
import Derived.Test.YtleifkpekoinlaaZ3C
import Derived.Test.YtleifkpekoinlaaZ3D

/- Function 29 (laws.markTaskS): its runs between cut points. Written by a program of this repo (gen). -/
set_option linter.unusedVariables false
set_option linter.unusedSimpArgs false
set_option maxRecDepth 100000
namespace Go.Proofs.Ytleifkpekoinlaa
open Go Go.Am Go.Proofs
def ext29 : Ext := [(46, S46)]
theorem call29_46 : Callable Try.prog 46 := ⟨Try.f46, Try.func46, by kernel_rfl, by kernel_rfl⟩
theorem ext29Ok : ExtOk Try.prog ext29 := ⟨⟨call29_46, con46⟩, trivial⟩
/-! Function 29. -/
noncomputable def b29 : Code := bodyOf Try.f29
theorem hb29 : Try.f29.body = some b29 := by kernel_rfl
def sig29 : List AT := [AT.own (Ty.cons Ty.str (Ty.cons (Ty.int IntKind.i64) (Ty.cons (Ty.int IntKind.i64) Ty.unit))), AT.v (Ty.int IntKind.i64)]
def tys29 : List Ty := [Ty.int IntKind.i64]
def kds29 : List RK := []
def oks29 : List AT := owns sig29
def E29_2 (v5 : Int) (x1 : Int) (x0 : List (ByteArray × Int × Int × Unit)) : Env := [(0, PV.a (Atom.osl 0 Option.none)), (1, PV.a (Atom.val (Value.int IntKind.i64 x1))), (5, PV.a (Atom.val (Value.int IntKind.i64 v5)))]
def L29_2 (v5 : Int) (x1 : Int) (x0 : List (ByteArray × Int × Int × Unit)) : Heap := [Option.some (Arr.mk (Ty.cons Ty.str (Ty.cons (Ty.int IntKind.i64) (Ty.cons (Ty.int IntKind.i64) Ty.unit))) x0 Bool.false Option.none Option.none)]
mutual
def R29 : Nat → List (ByteArray × Int × Int × Unit) → Int → List Dyn → List (Option Lst) → Prop
  | 0, _, _, _, _ => False
  | n + 1, x0, x1, ds, us => (R29_2 n (0) (x1) (x0) ds us)
def R29_2 : Nat → Int → Int → List (ByteArray × Int × Int × Unit) → List Dyn → List (Option Lst) → Prop
  | 0, _, _, _, _, _ => False
  | n + 1, v5, x1, x0, ds, us => (if (Decidable.decide (v5 < (↑(List.length x0) : Int))) = true then ((0 ≤ v5) ∧ (v5 < (↑(List.length x0) : Int)) ∧ ((InR IntKind.i64 (x1 + 1)) ∧ ((0 ≤ v5) ∧ (v5 < (↑(List.length (List.set x0 (Int.toNat v5) (g46_0 x1, Prod.snd (List.getD x0 (Int.toNat v5) (ByteArray.empty, 0, 0, ()))))) : Int)) ∧ ((InR IntKind.i64 (x1 + 1 + 1)) ∧ ((0 ≤ v5) ∧ (v5 < (↑(List.length (List.set (List.set x0 (Int.toNat v5) (g46_0 x1, Prod.snd (List.getD x0 (Int.toNat v5) (ByteArray.empty, 0, 0, ())))) (Int.toNat v5) (Prod.fst (List.getD (List.set x0 (Int.toNat v5) (g46_0 x1, Prod.snd (List.getD x0 (Int.toNat v5) (ByteArray.empty, 0, 0, ())))) (Int.toNat v5) (ByteArray.empty, 0, 0, ())), x1 + 1, Prod.snd (Prod.snd (List.getD (List.set x0 (Int.toNat v5) (g46_0 x1, Prod.snd (List.getD x0 (Int.toNat v5) (ByteArray.empty, 0, 0, ())))) (Int.toNat v5) (ByteArray.empty, 0, 0, ())))))) : Int)) ∧ ((InR IntKind.i64 (x1 + 1 + 1 + 1)) ∧ ((InR IntKind.i64 (v5 + 1)) ∧ (R29_2 n (v5 + 1) (x1 + 1 + 1 + 1) (List.set (List.set (List.set x0 (Int.toNat v5) (g46_0 x1, Prod.snd (List.getD x0 (Int.toNat v5) (ByteArray.empty, 0, 0, ())))) (Int.toNat v5) (Prod.fst (List.getD (List.set x0 (Int.toNat v5) (g46_0 x1, Prod.snd (List.getD x0 (Int.toNat v5) (ByteArray.empty, 0, 0, ())))) (Int.toNat v5) (ByteArray.empty, 0, 0, ())), x1 + 1, Prod.snd (Prod.snd (List.getD (List.set x0 (Int.toNat v5) (g46_0 x1, Prod.snd (List.getD x0 (Int.toNat v5) (ByteArray.empty, 0, 0, ())))) (Int.toNat v5) (ByteArray.empty, 0, 0, ()))))) (Int.toNat v5) (Prod.fst (List.getD (List.set (List.set x0 (Int.toNat v5) (g46_0 x1, Prod.snd (List.getD x0 (Int.toNat v5) (ByteArray.empty, 0, 0, ())))) (Int.toNat v5) (Prod.fst (List.getD (List.set x0 (Int.toNat v5) (g46_0 x1, Prod.snd (List.getD x0 (Int.toNat v5) (ByteArray.empty, 0, 0, ())))) (Int.toNat v5) (ByteArray.empty, 0, 0, ())), x1 + 1, Prod.snd (Prod.snd (List.getD (List.set x0 (Int.toNat v5) (g46_0 x1, Prod.snd (List.getD x0 (Int.toNat v5) (ByteArray.empty, 0, 0, ())))) (Int.toNat v5) (ByteArray.empty, 0, 0, ()))))) (Int.toNat v5) (ByteArray.empty, 0, 0, ())), Prod.fst (Prod.snd (List.getD (List.set (List.set x0 (Int.toNat v5) (g46_0 x1, Prod.snd (List.getD x0 (Int.toNat v5) (ByteArray.empty, 0, 0, ())))) (Int.toNat v5) (Prod.fst (List.getD (List.set x0 (Int.toNat v5) (g46_0 x1, Prod.snd (List.getD x0 (Int.toNat v5) (ByteArray.empty, 0, 0, ())))) (Int.toNat v5) (ByteArray.empty, 0, 0, ())), x1 + 1, Prod.snd (Prod.snd (List.getD (List.set x0 (Int.toNat v5) (g46_0 x1, Prod.snd (List.getD x0 (Int.toNat v5) (ByteArray.empty, 0, 0, ())))) (Int.toNat v5) (ByteArray.empty, 0, 0, ()))))) (Int.toNat v5) (ByteArray.empty, 0, 0, ()))), x1 + 1 + 1, Prod.snd (Prod.snd (Prod.snd (List.getD (List.set (List.set x0 (Int.toNat v5) (g46_0 x1, Prod.snd (List.getD x0 (Int.toNat v5) (ByteArray.empty, 0, 0, ())))) (Int.toNat v5) (Prod.fst (List.getD (List.set x0 (Int.toNat v5) (g46_0 x1, Prod.snd (List.getD x0 (Int.toNat v5) (ByteArray.empty, 0, 0, ())))) (Int.toNat v5) (ByteArray.empty, 0, 0, ())), x1 + 1, Prod.snd (Prod.snd (List.getD (List.set x0 (Int.toNat v5) (g46_0 x1, Prod.snd (List.getD x0 (Int.toNat v5) (ByteArray.empty, 0, 0, ())))) (Int.toNat v5) (ByteArray.empty, 0, 0, ()))))) (Int.toNat v5) (ByteArray.empty, 0, 0, ())))))) ds us)))))))) else (ds = [Dyn.mk (Ty.int IntKind.i64) x1] ∧ us = [Option.some (Lst.mk (Ty.cons Ty.str (Ty.cons (Ty.int IntKind.i64) (Ty.cons (Ty.int IntKind.i64) Ty.unit))) x0)]))
end
theorem p29_0 (x0 : List (ByteArray × Int × Int × Unit)) (x1 : Int) : Am.runN tab ext29 false 35 [] 2000 [0] [] [0, 1, 5] [0] [] [.code b29] (entE 0 0 sig29 (x0, x1, ())) (entL sig29 (x0, x1, ())) = some (cutAt b29 2, E29_2 (0) (x1) (x0), L29_2 (0) (x1) (x0), []) := by kernel_rfl
theorem p29_1 (v5 : Int) (x1 : Int) (x0 : List (ByteArray × Int × Int × Unit)) : Am.runN tab ext29 false 35 [] 2000 [0] [] [0, 1, 5] [0] [true] (cutAt b29 2) (E29_2 v5 x1 x0) (L29_2 v5 x1 x0) = some (cutAt b29 2, E29_2 (v5 + 1) (x1 + 1 + 1 + 1) (List.set (List.set (List.set x0 (Int.toNat v5) (g46_0 x1, Prod.snd (List.getD x0 (Int.toNat v5) (ByteArray.empty, 0, 0, ())))) (Int.toNat v5) (Prod.fst (List.getD (List.set x0 (Int.toNat v5) (g46_0 x1, Prod.snd (List.getD x0 (Int.toNat v5) (ByteArray.empty, 0, 0, ())))) (Int.toNat v5) (ByteArray.empty, 0, 0, ())), x1 + 1, Prod.snd (Prod.snd (List.getD (List.set x0 (Int.toNat v5) (g46_0 x1, Prod.snd (List.getD x0 (Int.toNat v5) (ByteArray.empty, 0, 0, ())))) (Int.toNat v5) (ByteArray.empty, 0, 0, ()))))) (Int.toNat v5) (Prod.fst (List.getD (List.set (List.set x0 (Int.toNat v5) (g46_0 x1, Prod.snd (List.getD x0 (Int.toNat v5) (ByteArray.empty, 0, 0, ())))) (Int.toNat v5) (Prod.fst (List.getD (List.set x0 (Int.toNat v5) (g46_0 x1, Prod.snd (List.getD x0 (Int.toNat v5) (ByteArray.empty, 0, 0, ())))) (Int.toNat v5) (ByteArray.empty, 0, 0, ())), x1 + 1, Prod.snd (Prod.snd (List.getD (List.set x0 (Int.toNat v5) (g46_0 x1, Prod.snd (List.getD x0 (Int.toNat v5) (ByteArray.empty, 0, 0, ())))) (Int.toNat v5) (ByteArray.empty, 0, 0, ()))))) (Int.toNat v5) (ByteArray.empty, 0, 0, ())), Prod.fst (Prod.snd (List.getD (List.set (List.set x0 (Int.toNat v5) (g46_0 x1, Prod.snd (List.getD x0 (Int.toNat v5) (ByteArray.empty, 0, 0, ())))) (Int.toNat v5) (Prod.fst (List.getD (List.set x0 (Int.toNat v5) (g46_0 x1, Prod.snd (List.getD x0 (Int.toNat v5) (ByteArray.empty, 0, 0, ())))) (Int.toNat v5) (ByteArray.empty, 0, 0, ())), x1 + 1, Prod.snd (Prod.snd (List.getD (List.set x0 (Int.toNat v5) (g46_0 x1, Prod.snd (List.getD x0 (Int.toNat v5) (ByteArray.empty, 0, 0, ())))) (Int.toNat v5) (ByteArray.empty, 0, 0, ()))))) (Int.toNat v5) (ByteArray.empty, 0, 0, ()))), x1 + 1 + 1, Prod.snd (Prod.snd (Prod.snd (List.getD (List.set (List.set x0 (Int.toNat v5) (g46_0 x1, Prod.snd (List.getD x0 (Int.toNat v5) (ByteArray.empty, 0, 0, ())))) (Int.toNat v5) (Prod.fst (List.getD (List.set x0 (Int.toNat v5) (g46_0 x1, Prod.snd (List.getD x0 (Int.toNat v5) (ByteArray.empty, 0, 0, ())))) (Int.toNat v5) (ByteArray.empty, 0, 0, ())), x1 + 1, Prod.snd (Prod.snd (List.getD (List.set x0 (Int.toNat v5) (g46_0 x1, Prod.snd (List.getD x0 (Int.toNat v5) (ByteArray.empty, 0, 0, ())))) (Int.toNat v5) (ByteArray.empty, 0, 0, ()))))) (Int.toNat v5) (ByteArray.empty, 0, 0, ())))))), L29_2 (v5 + 1) (x1 + 1 + 1 + 1) (List.set (List.set (List.set x0 (Int.toNat v5) (g46_0 x1, Prod.snd (List.getD x0 (Int.toNat v5) (ByteArray.empty, 0, 0, ())))) (Int.toNat v5) (Prod.fst (List.getD (List.set x0 (Int.toNat v5) (g46_0 x1, Prod.snd (List.getD x0 (Int.toNat v5) (ByteArray.empty, 0, 0, ())))) (Int.toNat v5) (ByteArray.empty, 0, 0, ())), x1 + 1, Prod.snd (Prod.snd (List.getD (List.set x0 (Int.toNat v5) (g46_0 x1, Prod.snd (List.getD x0 (Int.toNat v5) (ByteArray.empty, 0, 0, ())))) (Int.toNat v5) (ByteArray.empty, 0, 0, ()))))) (Int.toNat v5) (Prod.fst (List.getD (List.set (List.set x0 (Int.toNat v5) (g46_0 x1, Prod.snd (List.getD x0 (Int.toNat v5) (ByteArray.empty, 0, 0, ())))) (Int.toNat v5) (Prod.fst (List.getD (List.set x0 (Int.toNat v5) (g46_0 x1, Prod.snd (List.getD x0 (Int.toNat v5) (ByteArray.empty, 0, 0, ())))) (Int.toNat v5) (ByteArray.empty, 0, 0, ())), x1 + 1, Prod.snd (Prod.snd (List.getD (List.set x0 (Int.toNat v5) (g46_0 x1, Prod.snd (List.getD x0 (Int.toNat v5) (ByteArray.empty, 0, 0, ())))) (Int.toNat v5) (ByteArray.empty, 0, 0, ()))))) (Int.toNat v5) (ByteArray.empty, 0, 0, ())), Prod.fst (Prod.snd (List.getD (List.set (List.set x0 (Int.toNat v5) (g46_0 x1, Prod.snd (List.getD x0 (Int.toNat v5) (ByteArray.empty, 0, 0, ())))) (Int.toNat v5) (Prod.fst (List.getD (List.set x0 (Int.toNat v5) (g46_0 x1, Prod.snd (List.getD x0 (Int.toNat v5) (ByteArray.empty, 0, 0, ())))) (Int.toNat v5) (ByteArray.empty, 0, 0, ())), x1 + 1, Prod.snd (Prod.snd (List.getD (List.set x0 (Int.toNat v5) (g46_0 x1, Prod.snd (List.getD x0 (Int.toNat v5) (ByteArray.empty, 0, 0, ())))) (Int.toNat v5) (ByteArray.empty, 0, 0, ()))))) (Int.toNat v5) (ByteArray.empty, 0, 0, ()))), x1 + 1 + 1, Prod.snd (Prod.snd (Prod.snd (List.getD (List.set (List.set x0 (Int.toNat v5) (g46_0 x1, Prod.snd (List.getD x0 (Int.toNat v5) (ByteArray.empty, 0, 0, ())))) (Int.toNat v5) (Prod.fst (List.getD (List.set x0 (Int.toNat v5) (g46_0 x1, Prod.snd (List.getD x0 (Int.toNat v5) (ByteArray.empty, 0, 0, ())))) (Int.toNat v5) (ByteArray.empty, 0, 0, ())), x1 + 1, Prod.snd (Prod.snd (List.getD (List.set x0 (Int.toNat v5) (g46_0 x1, Prod.snd (List.getD x0 (Int.toNat v5) (ByteArray.empty, 0, 0, ())))) (Int.toNat v5) (ByteArray.empty, 0, 0, ()))))) (Int.toNat v5) (ByteArray.empty, 0, 0, ())))))), [Decidable.decide (v5 < (↑(List.length x0) : Int)) = Bool.true, True, 0 ≤ v5, v5 < (↑(List.length x0) : Int), InR IntKind.i64 (x1 + 1), 0 ≤ v5, v5 < (↑(List.length (List.set x0 (Int.toNat v5) (g46_0 x1, Prod.snd (List.getD x0 (Int.toNat v5) (ByteArray.empty, 0, 0, ()))))) : Int), InR IntKind.i64 (x1 + 1 + 1), 0 ≤ v5, v5 < (↑(List.length (List.set (List.set x0 (Int.toNat v5) (g46_0 x1, Prod.snd (List.getD x0 (Int.toNat v5) (ByteArray.empty, 0, 0, ())))) (Int.toNat v5) (Prod.fst (List.getD (List.set x0 (Int.toNat v5) (g46_0 x1, Prod.snd (List.getD x0 (Int.toNat v5) (ByteArray.empty, 0, 0, ())))) (Int.toNat v5) (ByteArray.empty, 0, 0, ())), x1 + 1, Prod.snd (Prod.snd (List.getD (List.set x0 (Int.toNat v5) (g46_0 x1, Prod.snd (List.getD x0 (Int.toNat v5) (ByteArray.empty, 0, 0, ())))) (Int.toNat v5) (ByteArray.empty, 0, 0, ())))))) : Int), InR IntKind.i64 (x1 + 1 + 1 + 1), InR IntKind.i64 (v5 + 1)]) := by kernel_rfl
theorem p29_2 (v5 : Int) (x1 : Int) (x0 : List (ByteArray × Int × Int × Unit)) : runF tab ext29 false 35 [] 2000 [0] oks29 kds29 tys29 Try.f29.results [false] (cutAt b29 2) (E29_2 v5 x1 x0) (L29_2 v5 x1 x0) = some ([Dyn.mk (Ty.int IntKind.i64) x1], [Option.some (Lst.mk (Ty.cons Ty.str (Ty.cons (Ty.int IntKind.i64) (Ty.cons (Ty.int IntKind.i64) Ty.unit))) x0)], [Decidable.decide (v5 < (↑(List.length x0) : Int)) = Bool.false]) := by kernel_rfl
theorem snd29 : ∀ n, (∀ (x0 : List (ByteArray × Int × Int × Unit)) (x1 : Int) ds us, R29 n x0 x1 ds us → ∀ K q, AtV Try.prog 29 (PostR kds29 oks29 ds us [0] q K) 35 K q [0] [.code b29] (entE 0 0 sig29 (x0, x1, ())) (entL sig29 (x0, x1, ()))) ∧ (∀ (v5 : Int) (x1 : Int) (x0 : List (ByteArray × Int × Int × Unit)) ds us, R29_2 n v5 x1 x0 ds us → ∀ K q, AtV Try.prog 29 (PostR kds29 oks29 ds us [0] q K) 35 K q [0] (cutAt b29 2) (E29_2 v5 x1 x0) (L29_2 v5 x1 x0)) := by
  intro n
  induction n with
  | zero => exact ⟨fun _ _ _ _ h => by simp only [R29] at h, fun _ _ _ _ _ h => by simp only [R29_2] at h⟩
  | succ n ih =>
  obtain ⟨ih, ih2⟩ := ih
  refine ⟨?_, ?_⟩
  · intro x0 x1 ds us h K q
    rw [R29] at h
    exact AtV.runN tabOk ext29Ok mixed (p29_0 x0 x1) trivial (ih2 _ _ _ _ _ h K q)

  · intro v5 x1 x0 ds us h K q
    rw [R29_2] at h
    by_cases b0 : (Decidable.decide (v5 < (↑(List.length x0) : Int))) = true
    · rw [if_pos b0] at h
      obtain ⟨s0, s1, h⟩ := h
      obtain ⟨s2, h⟩ := h
      obtain ⟨s3, s4, h⟩ := h
      obtain ⟨s5, h⟩ := h
      obtain ⟨s6, s7, h⟩ := h
      obtain ⟨s8, h⟩ := h
      obtain ⟨s9, h⟩ := h
      exact AtV.runN tabOk ext29Ok mixed (p29_1 v5 x1 x0) ⟨b0, trivial, s0, s1, s2, s3, s4, s5, s6, s7, s8, s9, trivial⟩ (ih2 _ _ _ _ _ h K q)
    · rw [if_neg b0] at h
      replace b0 := Bool.eq_false_iff.2 b0
      obtain ⟨h, h'⟩ := h; subst h; subst h'
      exact AtV.fin Try.func29 tabOk ext29Ok mixed (p29_2 v5 x1 x0) ⟨b0, trivial⟩



def M29 (x1 : Int) (n : Nat) : List (ByteArray × Int × Int × Unit) := (List.range n).map fun (j : Nat) => (g46_0 (x1 + 3 * (j : Int)), (x1 + 3 * (j : Int) + 1), (x1 + 3 * (j : Int) + 1 + 1), ())

theorem M29_len (x1 : Int) (n : Nat) : (M29 x1 n).length = n := by simp [M29]

theorem M29_succ (x1 : Int) (n : Nat) : M29 x1 (n + 1) = M29 x1 n ++ [(g46_0 (x1 + 3 * (n : Int)), (x1 + 3 * (n : Int) + 1), (x1 + 3 * (n : Int) + 1 + 1), ())] := by
  simp [M29, List.range_succ]

theorem run29 (x0 : List (ByteArray × Int × Int × Unit)) (x1 : Int) (hm : x0.length ≤ maxLen) (h0 : 0 ≤ x1) (h1 : x1 + 3 * x0.length ≤ 9223372036854775807) : ∀ (k i : Nat), i + k = x0.length →
    R29_2 (k + 1) (i : Int) (x1 + 3 * (i : Int)) (M29 x1 i ++ x0.drop i) [⟨.int .i64, x1 + 3 * (x0.length : Int)⟩] [some ⟨(.cons .str (.cons (.int .i64) (.cons (.int .i64) .unit))), M29 x1 x0.length⟩] := by
  intro k
  induction k with
  | zero =>
    intro i hi
    have hl : (M29 x1 i ++ x0.drop i).length = x0.length := by simp [M29_len]; omega
    rw [R29_2, if_neg (by rw [hl]; simp; omega), drop_end x0 i (by omega), List.append_nil]
    have : i = x0.length := by omega
    subst this
    exact ⟨rfl, rfl⟩
  | succ k ih =>
    intro i hi
    have hl : (M29 x1 i ++ x0.drop i).length = x0.length := by simp [M29_len]; omega
    have hA := M29_len x1 i
    rw [R29_2, if_pos (by rw [hl]; simp; omega)]
    rw [drop_get x0 i (ByteArray.empty, (0 : Int), (0 : Int), ()) (by omega)] at hl ⊢
    simp only [Int.toNat_natCast, set_mid _ _ _ _ i hA, get_mid _ _ _ _ i hA]
    have hl' : ∀ y : (ByteArray × Int × Int × Unit), ((M29 x1 i ++ y :: x0.drop (i + 1)).length : Int) = x0.length := fun y => by rw [← hl]; simp
    simp only [hl']
    refine ⟨by omega, by omega, by rw [i64_iff]; omega, by omega, by omega, by rw [i64_iff]; omega, by omega, by omega, by rw [i64_iff]; omega, inR_up hm (by omega), ?_⟩
    have hx : x1 + 3 * (i : Int) + 1 + 1 + 1 = x1 + 3 * ((i + 1 : Nat) : Int) := by omega
    have := ih (i + 1) (by omega)
    rw [M29_succ, List.append_assoc] at this
    rw [hx]
    simpa using this

def P29 (x0 : List (ByteArray × Int × Int × Unit)) (x1 : Int) : Prop := 0 ≤ x1 ∧ x1 + 3 * x0.length ≤ 9223372036854775807
def g29_0 (x0 : List (ByteArray × Int × Int × Unit)) (x1 : Int) : Int := x1 + 3 * (x0.length : Int)
def u29_0 (x0 : List (ByteArray × Int × Int × Unit)) (x1 : Int) : List (ByteArray × Int × Int × Unit) := M29 x1 x0.length

theorem top29 (x0 : List (ByteArray × Int × Int × Unit)) (x1 : Int) (hm : x0.length ≤ maxLen) (h : P29 x0 x1) : R29 (x0.length + 1 + 1) x0 x1 [⟨.int .i64, g29_0 x0 x1⟩] [some ⟨(.cons .str (.cons (.int .i64) (.cons (.int .i64) .unit))), u29_0 x0 x1⟩] := by
  rw [R29]
  have := run29 x0 x1 hm h.1 h.2 x0.length 0 (by omega)
  simpa [M29, g29_0, u29_0] using this

def S29 : Am.Spec := { sig := sig29, pre := fun ⟨x0, x1, _⟩ => P29 x0 x1, upd := fun ⟨x0, x1, _⟩ => [some ⟨(.cons .str (.cons (.int .i64) (.cons (.int .i64) .unit))), u29_0 x0 x1⟩], res := fun ⟨x0, x1, _⟩ => [⟨.int .i64, g29_0 x0 x1⟩] }
theorem con29 : Contract Try.prog 29 S29 := contract_of Try.func29 hb29 (Nat.le_of_ble_eq_true (by kernel_rfl)) (fun ⟨x0, x1, _⟩ h hwf K q =>
  (snd29 _).1 x0 x1 _ _ (top29 x0 x1 hwf.1.1 h) K q)

end Go.Proofs.Ytleifkpekoinlaa

/- Function 37 (laws.heldTaskS): its runs between cut points. Written by a program of this repo (gen). -/
set_option linter.unusedVariables false
set_option linter.unusedSimpArgs false
set_option maxRecDepth 100000
namespace Go.Proofs.Ytleifkpekoinlaa
open Go Go.Am Go.Proofs
def ext37 : Ext := [(46, S46)]
theorem call37_46 : Callable Try.prog 46 := ⟨Try.f46, Try.func46, by kernel_rfl, by kernel_rfl⟩
theorem ext37Ok : ExtOk Try.prog ext37 := ⟨⟨call37_46, con46⟩, trivial⟩
/-! Function 37. -/
noncomputable def b37 : Code := bodyOf Try.f37
theorem hb37 : Try.f37.body = some b37 := by kernel_rfl
def sig37 : List AT := [AT.v (Ty.sl (Ty.cons Ty.str (Ty.cons (Ty.int IntKind.i64) (Ty.cons (Ty.int IntKind.i64) Ty.unit)))), AT.v (Ty.int IntKind.i64)]
def tys37 : List Ty := [Ty.int IntKind.i64]
def kds37 : List RK := []
def oks37 : List AT := owns sig37
def E37_2 (v5 : Int) (x0 : List (ByteArray × Int × Int × Unit)) (x1 : Int) : Env := [(0, PV.a (Atom.sl (Ty.cons Ty.str (Ty.cons (Ty.int IntKind.i64) (Ty.cons (Ty.int IntKind.i64) Ty.unit))) x0)), (1, PV.a (Atom.val (Value.int IntKind.i64 x1))), (5, PV.a (Atom.val (Value.int IntKind.i64 v5)))]
def L37_2 (v5 : Int) (x0 : List (ByteArray × Int × Int × Unit)) (x1 : Int) : Heap := []
mutual
def R37 : Nat → List (ByteArray × Int × Int × Unit) → Int → List Dyn → Prop
  | 0, _, _, _ => False
  | n + 1, x0, x1, ds => (R37_2 n (0) (x0) (x1) ds)
def R37_2 : Nat → Int → List (ByteArray × Int × Int × Unit) → Int → List Dyn → Prop
  | 0, _, _, _, _ => False
  | n + 1, v5, x0, x1, ds => (if (Decidable.decide (v5 < (↑(List.length x0) : Int))) = true then ((0 ≤ v5) ∧ (v5 < (↑(List.length x0) : Int)) ∧ (if (!ByteArray.toList (Prod.fst (List.getD x0 (Int.toNat v5) (ByteArray.empty, 0, 0, ()))) == ByteArray.toList (g46_0 x1)) = true then (ds = [Dyn.mk (Ty.int IntKind.i64) (-1)]) else ((InR IntKind.i64 (x1 + 1)) ∧ ((0 ≤ v5) ∧ (v5 < (↑(List.length x0) : Int)) ∧ (if (Prod.fst (Prod.snd (List.getD x0 (Int.toNat v5) (ByteArray.empty, 0, 0, ()))) != x1 + 1) = true then (ds = [Dyn.mk (Ty.int IntKind.i64) (-1)]) else ((InR IntKind.i64 (x1 + 1 + 1)) ∧ ((0 ≤ v5) ∧ (v5 < (↑(List.length x0) : Int)) ∧ (if (Prod.fst (Prod.snd (Prod.snd (List.getD x0 (Int.toNat v5) (ByteArray.empty, 0, 0, ())))) != x1 + 1 + 1) = true then (ds = [Dyn.mk (Ty.int IntKind.i64) (-1)]) else ((InR IntKind.i64 (x1 + 1 + 1 + 1)) ∧ ((InR IntKind.i64 (v5 + 1)) ∧ (R37_2 n (v5 + 1) (x0) (x1 + 1 + 1 + 1) ds))))))))))) else (ds = [Dyn.mk (Ty.int IntKind.i64) x1]))
end
theorem p37_0 (x0 : List (ByteArray × Int × Int × Unit)) (x1 : Int) : Am.runN tab ext37 false 41 [] 2000 [] [] [0, 1, 5] [] [] [.code b37] (entE 0 0 sig37 (x0, x1, ())) (entL sig37 (x0, x1, ())) = some (cutAt b37 2, E37_2 (0) (x0) (x1), L37_2 (0) (x0) (x1), []) := by kernel_rfl
theorem p37_1 (v5 : Int) (x0 : List (ByteArray × Int × Int × Unit)) (x1 : Int) : runF tab ext37 false 41 [] 2000 [] oks37 kds37 tys37 Try.f37.results [true, true] (cutAt b37 2) (E37_2 v5 x0 x1) (L37_2 v5 x0 x1) = some ([Dyn.mk (Ty.int IntKind.i64) (-1)], [], [Decidable.decide (v5 < (↑(List.length x0) : Int)) = Bool.true, 0 ≤ v5, v5 < (↑(List.length x0) : Int), True, (!ByteArray.toList (Prod.fst (List.getD x0 (Int.toNat v5) (ByteArray.empty, 0, 0, ()))) == ByteArray.toList (g46_0 x1)) = Bool.true]) := by kernel_rfl
theorem p37_2 (v5 : Int) (x0 : List (ByteArray × Int × Int × Unit)) (x1 : Int) : runF tab ext37 false 41 [] 2000 [] oks37 kds37 tys37 Try.f37.results [true, false, true] (cutAt b37 2) (E37_2 v5 x0 x1) (L37_2 v5 x0 x1) = some ([Dyn.mk (Ty.int IntKind.i64) (-1)], [], [Decidable.decide (v5 < (↑(List.length x0) : Int)) = Bool.true, 0 ≤ v5, v5 < (↑(List.length x0) : Int), True, (!ByteArray.toList (Prod.fst (List.getD x0 (Int.toNat v5) (ByteArray.empty, 0, 0, ()))) == ByteArray.toList (g46_0 x1)) = Bool.false, InR IntKind.i64 (x1 + 1), 0 ≤ v5, v5 < (↑(List.length x0) : Int), (Prod.fst (Prod.snd (List.getD x0 (Int.toNat v5) (ByteArray.empty, 0, 0, ()))) != x1 + 1) = Bool.true]) := by kernel_rfl
theorem p37_3 (v5 : Int) (x0 : List (ByteArray × Int × Int × Unit)) (x1 : Int) : runF tab ext37 false 41 [] 2000 [] oks37 kds37 tys37 Try.f37.results [true, false, false, true] (cutAt b37 2) (E37_2 v5 x0 x1) (L37_2 v5 x0 x1) = some ([Dyn.mk (Ty.int IntKind.i64) (-1)], [], [Decidable.decide (v5 < (↑(List.length x0) : Int)) = Bool.true, 0 ≤ v5, v5 < (↑(List.length x0) : Int), True, (!ByteArray.toList (Prod.fst (List.getD x0 (Int.toNat v5) (ByteArray.empty, 0, 0, ()))) == ByteArray.toList (g46_0 x1)) = Bool.false, InR IntKind.i64 (x1 + 1), 0 ≤ v5, v5 < (↑(List.length x0) : Int), (Prod.fst (Prod.snd (List.getD x0 (Int.toNat v5) (ByteArray.empty, 0, 0, ()))) != x1 + 1) = Bool.false, InR IntKind.i64 (x1 + 1 + 1), 0 ≤ v5, v5 < (↑(List.length x0) : Int), (Prod.fst (Prod.snd (Prod.snd (List.getD x0 (Int.toNat v5) (ByteArray.empty, 0, 0, ())))) != x1 + 1 + 1) = Bool.true]) := by kernel_rfl
theorem p37_4 (v5 : Int) (x0 : List (ByteArray × Int × Int × Unit)) (x1 : Int) : Am.runN tab ext37 false 41 [] 2000 [] [] [0, 1, 5] [] [true, false, false, false] (cutAt b37 2) (E37_2 v5 x0 x1) (L37_2 v5 x0 x1) = some (cutAt b37 2, E37_2 (v5 + 1) (x0) (x1 + 1 + 1 + 1), L37_2 (v5 + 1) (x0) (x1 + 1 + 1 + 1), [Decidable.decide (v5 < (↑(List.length x0) : Int)) = Bool.true, 0 ≤ v5, v5 < (↑(List.length x0) : Int), True, (!ByteArray.toList (Prod.fst (List.getD x0 (Int.toNat v5) (ByteArray.empty, 0, 0, ()))) == ByteArray.toList (g46_0 x1)) = Bool.false, InR IntKind.i64 (x1 + 1), 0 ≤ v5, v5 < (↑(List.length x0) : Int), (Prod.fst (Prod.snd (List.getD x0 (Int.toNat v5) (ByteArray.empty, 0, 0, ()))) != x1 + 1) = Bool.false, InR IntKind.i64 (x1 + 1 + 1), 0 ≤ v5, v5 < (↑(List.length x0) : Int), (Prod.fst (Prod.snd (Prod.snd (List.getD x0 (Int.toNat v5) (ByteArray.empty, 0, 0, ())))) != x1 + 1 + 1) = Bool.false, InR IntKind.i64 (x1 + 1 + 1 + 1), InR IntKind.i64 (v5 + 1)]) := by kernel_rfl
theorem p37_5 (v5 : Int) (x0 : List (ByteArray × Int × Int × Unit)) (x1 : Int) : runF tab ext37 false 41 [] 2000 [] oks37 kds37 tys37 Try.f37.results [false] (cutAt b37 2) (E37_2 v5 x0 x1) (L37_2 v5 x0 x1) = some ([Dyn.mk (Ty.int IntKind.i64) x1], [], [Decidable.decide (v5 < (↑(List.length x0) : Int)) = Bool.false]) := by kernel_rfl
theorem snd37 : ∀ n, (∀ (x0 : List (ByteArray × Int × Int × Unit)) (x1 : Int) ds, R37 n x0 x1 ds → ∀ K q, AtV Try.prog 37 (PostR kds37 oks37 ds [] [] q K) 41 K q [] [.code b37] (entE 0 0 sig37 (x0, x1, ())) (entL sig37 (x0, x1, ()))) ∧ (∀ (v5 : Int) (x0 : List (ByteArray × Int × Int × Unit)) (x1 : Int) ds, R37_2 n v5 x0 x1 ds → ∀ K q, AtV Try.prog 37 (PostR kds37 oks37 ds [] [] q K) 41 K q [] (cutAt b37 2) (E37_2 v5 x0 x1) (L37_2 v5 x0 x1)) := by
  intro n
  induction n with
  | zero => exact ⟨fun _ _ _ h => by simp only [R37] at h, fun _ _ _ _ h => by simp only [R37_2] at h⟩
  | succ n ih =>
  obtain ⟨ih, ih2⟩ := ih
  refine ⟨?_, ?_⟩
  · intro x0 x1 ds h K q
    rw [R37] at h
    exact AtV.runN tabOk ext37Ok mixed (p37_0 x0 x1) trivial (ih2 _ _ _ _ h K q)

  · intro v5 x0 x1 ds h K q
    rw [R37_2] at h
    by_cases b0 : (Decidable.decide (v5 < (↑(List.length x0) : Int))) = true
    · rw [if_pos b0] at h
      obtain ⟨s0, s1, h⟩ := h
      by_cases b1 : (!ByteArray.toList (Prod.fst (List.getD x0 (Int.toNat v5) (ByteArray.empty, 0, 0, ()))) == ByteArray.toList (g46_0 x1)) = true
      · rw [if_pos b1] at h
        subst h
        exact AtV.fin Try.func37 tabOk ext37Ok mixed (p37_1 v5 x0 x1) ⟨b0, s0, s1, trivial, b1, trivial⟩
      · rw [if_neg b1] at h
        replace b1 := Bool.eq_false_iff.2 b1
        obtain ⟨s2, h⟩ := h
        obtain ⟨s3, s4, h⟩ := h
        by_cases b2 : (Prod.fst (Prod.snd (List.getD x0 (Int.toNat v5) (ByteArray.empty, 0, 0, ()))) != x1 + 1) = true
        · rw [if_pos b2] at h
          subst h
          exact AtV.fin Try.func37 tabOk ext37Ok mixed (p37_2 v5 x0 x1) ⟨b0, s0, s1, trivial, b1, s2, s3, s4, b2, trivial⟩
        · rw [if_neg b2] at h
          replace b2 := Bool.eq_false_iff.2 b2
          obtain ⟨s5, h⟩ := h
          obtain ⟨s6, s7, h⟩ := h
          by_cases b3 : (Prod.fst (Prod.snd (Prod.snd (List.getD x0 (Int.toNat v5) (ByteArray.empty, 0, 0, ())))) != x1 + 1 + 1) = true
          · rw [if_pos b3] at h
            subst h
            exact AtV.fin Try.func37 tabOk ext37Ok mixed (p37_3 v5 x0 x1) ⟨b0, s0, s1, trivial, b1, s2, s3, s4, b2, s5, s6, s7, b3, trivial⟩
          · rw [if_neg b3] at h
            replace b3 := Bool.eq_false_iff.2 b3
            obtain ⟨s8, h⟩ := h
            obtain ⟨s9, h⟩ := h
            exact AtV.runN tabOk ext37Ok mixed (p37_4 v5 x0 x1) ⟨b0, s0, s1, trivial, b1, s2, s3, s4, b2, s5, s6, s7, b3, s8, s9, trivial⟩ (ih2 _ _ _ _ h K q)
    · rw [if_neg b0] at h
      replace b0 := Bool.eq_false_iff.2 b0
      subst h
      exact AtV.fin Try.func37 tabOk ext37Ok mixed (p37_5 v5 x0 x1) ⟨b0, trivial⟩



theorem run37 (x0 : List (ByteArray × Int × Int × Unit)) (x1 : Int) (hm : x0.length ≤ maxLen) (h0 : 0 ≤ x1) (h1 : x1 + 3 * x0.length ≤ 9223372036854775807) (he : ∀ i : Nat, i < x0.length → x0.getD i (ByteArray.empty, (0 : Int), (0 : Int), ()) = (g46_0 (x1 + 3 * (i : Int)), (x1 + 3 * (i : Int) + 1), (x1 + 3 * (i : Int) + 1 + 1), ())) : ∀ (k i : Nat), i + k = x0.length →
    R37_2 (k + 1) (i : Int) x0 (x1 + 3 * (i : Int)) [⟨.int .i64, x1 + 3 * (x0.length : Int)⟩] := by
  intro k
  induction k with
  | zero =>
    intro i hi
    rw [R37_2, if_neg (by simp; omega)]
    have : i = x0.length := by omega
    subst this
    rfl
  | succ k ih =>
    intro i hi
    rw [R37_2, if_pos (by simp; omega)]
    simp only [Int.toNat_natCast, he i (by omega)]
    have hb : ∀ y : ByteArray, (!(ByteArray.toList y == ByteArray.toList y)) = true → False := fun y h => by rw [(bytes_eq y y).2 rfl] at h; cases h
    refine ⟨by omega, by omega, ?_⟩
    rw [if_neg (hb _)]
    refine ⟨by rw [i64_iff]; omega, by omega, by omega, ?_⟩
    rw [if_neg (by simp only [bne_self_eq_false, Bool.false_eq_true, not_false_eq_true])]
    refine ⟨by rw [i64_iff]; omega, by omega, by omega, ?_⟩
    rw [if_neg (by simp only [bne_self_eq_false, Bool.false_eq_true, not_false_eq_true])]
    refine ⟨by rw [i64_iff]; omega, inR_up hm (by omega), ?_⟩
    have hx : x1 + 3 * (i : Int) + 1 + 1 + 1 = x1 + 3 * ((i + 1 : Nat) : Int) := by omega
    rw [hx]
    exact ih (i + 1) (by omega)

def P37 (x0 : List (ByteArray × Int × Int × Unit)) (x1 : Int) : Prop := (0 ≤ x1 ∧ x1 + 3 * x0.length ≤ 9223372036854775807) ∧ ∀ i : Nat, i < x0.length → x0.getD i (ByteArray.empty, (0 : Int), (0 : Int), ()) = (g46_0 (x1 + 3 * (i : Int)), (x1 + 3 * (i : Int) + 1), (x1 + 3 * (i : Int) + 1 + 1), ())
def g37_0 (x0 : List (ByteArray × Int × Int × Unit)) (x1 : Int) : Int := x1 + 3 * (x0.length : Int)

theorem top37 (x0 : List (ByteArray × Int × Int × Unit)) (x1 : Int) (hm : x0.length ≤ maxLen) (h : P37 x0 x1) : R37 (x0.length + 1 + 1) x0 x1 [⟨.int .i64, g37_0 x0 x1⟩] := by
  rw [R37]
  have := run37 x0 x1 hm h.1.1 h.1.2 h.2 x0.length 0 (by omega)
  simpa [g37_0] using this

def S37 : Am.Spec := { sig := sig37, pre := fun ⟨x0, x1, _⟩ => P37 x0 x1, res := fun ⟨x0, x1, _⟩ => [⟨.int .i64, g37_0 x0 x1⟩] }
theorem con37 : Contract Try.prog 37 S37 := contract_of Try.func37 hb37 (Nat.le_of_ble_eq_true (by kernel_rfl)) (fun ⟨x0, x1, _⟩ h hwf K q =>
  (snd37 _).1 x0 x1 _ (top37 x0 x1 hwf.1.1 h) K q)

end Go.Proofs.Ytleifkpekoinlaa

/- Function 9 (spec.l32New): its runs between cut points. Written by a program of this repo (gen). -/
set_option linter.unusedVariables false
set_option linter.unusedSimpArgs false
set_option maxRecDepth 100000
namespace Go.Proofs.Ytleifkpekoinlaa
open Go Go.Am Go.Proofs
def ext9 : Ext := []
theorem ext9Ok : ExtOk Try.prog ext9 := trivial
/-! Function 9. -/
noncomputable def b9 : Code := bodyOf Try.f9
theorem hb9 : Try.f9.body = some b9 := by kernel_rfl
def sig9 : List AT := []
def tys9 : List Ty := [Ty.cons (Ty.sl (Ty.cons Ty.str (Ty.cons (Ty.int IntKind.i64) (Ty.cons (Ty.int IntKind.i64) (Ty.cons (Ty.int IntKind.i64) Ty.unit))))) (Ty.cons (Ty.cons (Ty.int IntKind.i64) (Ty.cons (Ty.int IntKind.i64) (Ty.cons (Ty.int IntKind.i64) (Ty.cons (Ty.int IntKind.i64) Ty.unit)))) (Ty.cons (Ty.sl (Ty.cons (Ty.int IntKind.i64) (Ty.cons (Ty.int IntKind.i64) (Ty.cons (Ty.int IntKind.i64) Ty.unit)))) (Ty.cons (Ty.sl (Ty.cons (Ty.int IntKind.i64) (Ty.cons (Ty.int IntKind.i64) (Ty.cons (Ty.int IntKind.i64) Ty.unit)))) (Ty.cons (Ty.cons (Ty.int IntKind.i64) (Ty.cons (Ty.int IntKind.i64) (Ty.cons (Ty.int IntKind.i64) Ty.unit))) (Ty.cons (Ty.cons (Ty.int IntKind.i64) (Ty.cons (Ty.int IntKind.i64) (Ty.cons (Ty.int IntKind.i64) Ty.unit))) (Ty.cons (Ty.sl (Ty.cons Ty.str (Ty.cons (Ty.int IntKind.i64) (Ty.cons (Ty.int IntKind.i64) Ty.unit)))) (Ty.cons (Ty.cons (Ty.int IntKind.i64) (Ty.cons (Ty.int IntKind.i64) (Ty.cons (Ty.int IntKind.i64) (Ty.cons (Ty.int IntKind.i64) Ty.unit)))) (Ty.cons (Ty.sl (Ty.cons Ty.str (Ty.cons (Ty.int IntKind.i64) (Ty.cons (Ty.int IntKind.i64) (Ty.cons (Ty.int IntKind.i64) Ty.unit))))) (Ty.cons (Ty.sl (Ty.cons (Ty.int IntKind.i64) (Ty.cons (Ty.int IntKind.i64) (Ty.cons (Ty.int IntKind.i64) Ty.unit)))) (Ty.cons (Ty.sl (Ty.cons Ty.str (Ty.cons (Ty.int IntKind.i64) (Ty.cons (Ty.int IntKind.i64) Ty.unit)))) (Ty.cons (Ty.sl (Ty.cons Ty.str (Ty.cons (Ty.int IntKind.i64) (Ty.cons (Ty.int IntKind.i64) Ty.unit)))) Ty.unit)))))))))))]
def kds9 : List RK := []
def oks9 : List AT := owns sig9
def P9 : Prop := True
def g9_0 : List (ByteArray × Int × Int × Int × Unit) × (Int × Int × Int × Int × Unit) × List (Int × Int × Int × Unit) × List (Int × Int × Int × Unit) × (Int × Int × Int × Unit) × (Int × Int × Int × Unit) × List (ByteArray × Int × Int × Unit) × (Int × Int × Int × Int × Unit) × List (ByteArray × Int × Int × Int × Unit) × List (Int × Int × Int × Unit) × List (ByteArray × Int × Int × Unit) × List (ByteArray × Int × Int × Unit) × Unit := ([], (1000000, 2000, 120, 300000, ()), [], [], (50000, 20000, 100, ()), (0, 0, 0, ()), [], (3000, 20, 60000, 100, ()), [], [], [], [], ())
theorem p9_0 : runF tab ext9 false 9 [] 2000 [] oks9 kds9 tys9 Try.f9.results [] [.code b9] (entE 0 0 sig9 ()) (entL sig9 ()) = some ([Dyn.mk (Ty.cons (Ty.sl (Ty.cons Ty.str (Ty.cons (Ty.int IntKind.i64) (Ty.cons (Ty.int IntKind.i64) (Ty.cons (Ty.int IntKind.i64) Ty.unit))))) (Ty.cons (Ty.cons (Ty.int IntKind.i64) (Ty.cons (Ty.int IntKind.i64) (Ty.cons (Ty.int IntKind.i64) (Ty.cons (Ty.int IntKind.i64) Ty.unit)))) (Ty.cons (Ty.sl (Ty.cons (Ty.int IntKind.i64) (Ty.cons (Ty.int IntKind.i64) (Ty.cons (Ty.int IntKind.i64) Ty.unit)))) (Ty.cons (Ty.sl (Ty.cons (Ty.int IntKind.i64) (Ty.cons (Ty.int IntKind.i64) (Ty.cons (Ty.int IntKind.i64) Ty.unit)))) (Ty.cons (Ty.cons (Ty.int IntKind.i64) (Ty.cons (Ty.int IntKind.i64) (Ty.cons (Ty.int IntKind.i64) Ty.unit))) (Ty.cons (Ty.cons (Ty.int IntKind.i64) (Ty.cons (Ty.int IntKind.i64) (Ty.cons (Ty.int IntKind.i64) Ty.unit))) (Ty.cons (Ty.sl (Ty.cons Ty.str (Ty.cons (Ty.int IntKind.i64) (Ty.cons (Ty.int IntKind.i64) Ty.unit)))) (Ty.cons (Ty.cons (Ty.int IntKind.i64) (Ty.cons (Ty.int IntKind.i64) (Ty.cons (Ty.int IntKind.i64) (Ty.cons (Ty.int IntKind.i64) Ty.unit)))) (Ty.cons (Ty.sl (Ty.cons Ty.str (Ty.cons (Ty.int IntKind.i64) (Ty.cons (Ty.int IntKind.i64) (Ty.cons (Ty.int IntKind.i64) Ty.unit))))) (Ty.cons (Ty.sl (Ty.cons (Ty.int IntKind.i64) (Ty.cons (Ty.int IntKind.i64) (Ty.cons (Ty.int IntKind.i64) Ty.unit)))) (Ty.cons (Ty.sl (Ty.cons Ty.str (Ty.cons (Ty.int IntKind.i64) (Ty.cons (Ty.int IntKind.i64) Ty.unit)))) (Ty.cons (Ty.sl (Ty.cons Ty.str (Ty.cons (Ty.int IntKind.i64) (Ty.cons (Ty.int IntKind.i64) Ty.unit)))) Ty.unit)))))))))))) ([], (1000000, 2000, 120, 300000, ()), [], [], (50000, 20000, 100, ()), (0, 0, 0, ()), [], (3000, 20, 60000, 100, ()), [], [], [], [], ())], [], []) := by kernel_rfl
theorem at9 (h : P9) (K : Ctx) (q : Nat → Value) : AtV Try.prog 9 (PostR kds9 oks9 [⟨Ty.cons (Ty.sl (Ty.cons Ty.str (Ty.cons (Ty.int IntKind.i64) (Ty.cons (Ty.int IntKind.i64) (Ty.cons (Ty.int IntKind.i64) Ty.unit))))) (Ty.cons (Ty.cons (Ty.int IntKind.i64) (Ty.cons (Ty.int IntKind.i64) (Ty.cons (Ty.int IntKind.i64) (Ty.cons (Ty.int IntKind.i64) Ty.unit)))) (Ty.cons (Ty.sl (Ty.cons (Ty.int IntKind.i64) (Ty.cons (Ty.int IntKind.i64) (Ty.cons (Ty.int IntKind.i64) Ty.unit)))) (Ty.cons (Ty.sl (Ty.cons (Ty.int IntKind.i64) (Ty.cons (Ty.int IntKind.i64) (Ty.cons (Ty.int IntKind.i64) Ty.unit)))) (Ty.cons (Ty.cons (Ty.int IntKind.i64) (Ty.cons (Ty.int IntKind.i64) (Ty.cons (Ty.int IntKind.i64) Ty.unit))) (Ty.cons (Ty.cons (Ty.int IntKind.i64) (Ty.cons (Ty.int IntKind.i64) (Ty.cons (Ty.int IntKind.i64) Ty.unit))) (Ty.cons (Ty.sl (Ty.cons Ty.str (Ty.cons (Ty.int IntKind.i64) (Ty.cons (Ty.int IntKind.i64) Ty.unit)))) (Ty.cons (Ty.cons (Ty.int IntKind.i64) (Ty.cons (Ty.int IntKind.i64) (Ty.cons (Ty.int IntKind.i64) (Ty.cons (Ty.int IntKind.i64) Ty.unit)))) (Ty.cons (Ty.sl (Ty.cons Ty.str (Ty.cons (Ty.int IntKind.i64) (Ty.cons (Ty.int IntKind.i64) (Ty.cons (Ty.int IntKind.i64) Ty.unit))))) (Ty.cons (Ty.sl (Ty.cons (Ty.int IntKind.i64) (Ty.cons (Ty.int IntKind.i64) (Ty.cons (Ty.int IntKind.i64) Ty.unit)))) (Ty.cons (Ty.sl (Ty.cons Ty.str (Ty.cons (Ty.int IntKind.i64) (Ty.cons (Ty.int IntKind.i64) Ty.unit)))) (Ty.cons (Ty.sl (Ty.cons Ty.str (Ty.cons (Ty.int IntKind.i64) (Ty.cons (Ty.int IntKind.i64) Ty.unit)))) Ty.unit))))))))))), g9_0⟩] [] [] q K) 9 K q [] [.code b9] (entE 0 0 sig9 ()) (entL sig9 ()) := by
  unfold P9 at h
  unfold g9_0
  exact AtV.fin Try.func9 tabOk ext9Ok mixed (p9_0) trivial

def S9 : Am.Spec := { sig := sig9, pre := fun _ => P9, res := fun _ => [⟨Ty.cons (Ty.sl (Ty.cons Ty.str (Ty.cons (Ty.int IntKind.i64) (Ty.cons (Ty.int IntKind.i64) (Ty.cons (Ty.int IntKind.i64) Ty.unit))))) (Ty.cons (Ty.cons (Ty.int IntKind.i64) (Ty.cons (Ty.int IntKind.i64) (Ty.cons (Ty.int IntKind.i64) (Ty.cons (Ty.int IntKind.i64) Ty.unit)))) (Ty.cons (Ty.sl (Ty.cons (Ty.int IntKind.i64) (Ty.cons (Ty.int IntKind.i64) (Ty.cons (Ty.int IntKind.i64) Ty.unit)))) (Ty.cons (Ty.sl (Ty.cons (Ty.int IntKind.i64) (Ty.cons (Ty.int IntKind.i64) (Ty.cons (Ty.int IntKind.i64) Ty.unit)))) (Ty.cons (Ty.cons (Ty.int IntKind.i64) (Ty.cons (Ty.int IntKind.i64) (Ty.cons (Ty.int IntKind.i64) Ty.unit))) (Ty.cons (Ty.cons (Ty.int IntKind.i64) (Ty.cons (Ty.int IntKind.i64) (Ty.cons (Ty.int IntKind.i64) Ty.unit))) (Ty.cons (Ty.sl (Ty.cons Ty.str (Ty.cons (Ty.int IntKind.i64) (Ty.cons (Ty.int IntKind.i64) Ty.unit)))) (Ty.cons (Ty.cons (Ty.int IntKind.i64) (Ty.cons (Ty.int IntKind.i64) (Ty.cons (Ty.int IntKind.i64) (Ty.cons (Ty.int IntKind.i64) Ty.unit)))) (Ty.cons (Ty.sl (Ty.cons Ty.str (Ty.cons (Ty.int IntKind.i64) (Ty.cons (Ty.int IntKind.i64) (Ty.cons (Ty.int IntKind.i64) Ty.unit))))) (Ty.cons (Ty.sl (Ty.cons (Ty.int IntKind.i64) (Ty.cons (Ty.int IntKind.i64) (Ty.cons (Ty.int IntKind.i64) Ty.unit)))) (Ty.cons (Ty.sl (Ty.cons Ty.str (Ty.cons (Ty.int IntKind.i64) (Ty.cons (Ty.int IntKind.i64) Ty.unit)))) (Ty.cons (Ty.sl (Ty.cons Ty.str (Ty.cons (Ty.int IntKind.i64) (Ty.cons (Ty.int IntKind.i64) Ty.unit)))) Ty.unit))))))))))), g9_0⟩], kds := kds9 }
theorem con9 : Contract Try.prog 9 S9 := contract_of Try.func9 hb9 (Nat.le_of_ble_eq_true (by kernel_rfl)) (fun _ h _ K q => at9 h K q)


end Go.Proofs.Ytleifkpekoinlaa

/- Function 4 (spec.NewDesk): its runs between cut points. Written by a program of this repo (gen). -/
set_option linter.unusedVariables false
set_option linter.unusedSimpArgs false
set_option maxRecDepth 100000
namespace Go.Proofs.Ytleifkpekoinlaa
open Go Go.Am Go.Proofs
def ext4 : Ext := [(9, S9)]
theorem call4_9 : Callable Try.prog 9 := ⟨Try.f9, Try.func9, by kernel_rfl, by kernel_rfl⟩
theorem ext4Ok : ExtOk Try.prog ext4 := ⟨⟨call4_9, con9⟩, trivial⟩
/-! Function 4. -/
noncomputable def b4 : Code := bodyOf Try.f4
theorem hb4 : Try.f4.body = some b4 := by kernel_rfl
def sig4 : List AT := []
def tys4 : List Ty := [Ty.cons (Ty.sl (Ty.cons Ty.str (Ty.cons (Ty.int IntKind.i64) (Ty.cons (Ty.int IntKind.i64) (Ty.cons (Ty.int IntKind.i64) Ty.unit))))) (Ty.cons (Ty.cons (Ty.int IntKind.i64) (Ty.cons (Ty.int IntKind.i64) (Ty.cons (Ty.int IntKind.i64) (Ty.cons (Ty.int IntKind.i64) Ty.unit)))) (Ty.cons (Ty.sl (Ty.cons (Ty.int IntKind.i64) (Ty.cons (Ty.int IntKind.i64) (Ty.cons (Ty.int IntKind.i64) Ty.unit)))) (Ty.cons (Ty.sl (Ty.cons (Ty.int IntKind.i64) (Ty.cons (Ty.int IntKind.i64) (Ty.cons (Ty.int IntKind.i64) Ty.unit)))) (Ty.cons (Ty.cons (Ty.int IntKind.i64) (Ty.cons (Ty.int IntKind.i64) (Ty.cons (Ty.int IntKind.i64) Ty.unit))) (Ty.cons (Ty.cons (Ty.int IntKind.i64) (Ty.cons (Ty.int IntKind.i64) (Ty.cons (Ty.int IntKind.i64) Ty.unit))) (Ty.cons (Ty.sl (Ty.cons Ty.str (Ty.cons (Ty.int IntKind.i64) (Ty.cons (Ty.int IntKind.i64) Ty.unit)))) (Ty.cons (Ty.cons (Ty.int IntKind.i64) (Ty.cons (Ty.int IntKind.i64) (Ty.cons (Ty.int IntKind.i64) (Ty.cons (Ty.int IntKind.i64) Ty.unit)))) (Ty.cons (Ty.sl (Ty.cons Ty.str (Ty.cons (Ty.int IntKind.i64) (Ty.cons (Ty.int IntKind.i64) (Ty.cons (Ty.int IntKind.i64) Ty.unit))))) (Ty.cons (Ty.sl (Ty.cons (Ty.int IntKind.i64) (Ty.cons (Ty.int IntKind.i64) (Ty.cons (Ty.int IntKind.i64) Ty.unit)))) (Ty.cons (Ty.sl (Ty.cons Ty.str (Ty.cons (Ty.int IntKind.i64) (Ty.cons (Ty.int IntKind.i64) Ty.unit)))) (Ty.cons (Ty.sl (Ty.cons Ty.str (Ty.cons (Ty.int IntKind.i64) (Ty.cons (Ty.int IntKind.i64) Ty.unit)))) Ty.unit)))))))))))]
def kds4 : List RK := []
def oks4 : List AT := owns sig4
def P4 : Prop := True
def g4_0 : List (ByteArray × Int × Int × Int × Unit) × (Int × Int × Int × Int × Unit) × List (Int × Int × Int × Unit) × List (Int × Int × Int × Unit) × (Int × Int × Int × Unit) × (Int × Int × Int × Unit) × List (ByteArray × Int × Int × Unit) × (Int × Int × Int × Int × Unit) × List (ByteArray × Int × Int × Int × Unit) × List (Int × Int × Int × Unit) × List (ByteArray × Int × Int × Unit) × List (ByteArray × Int × Int × Unit) × Unit := (Prod.fst g9_0, (1000000, 2000, 120, 300000, ()), Prod.fst (Prod.snd (Prod.snd g9_0)), Prod.fst (Prod.snd (Prod.snd (Prod.snd g9_0))), (50000, 20000, 100, ()), (0, 0, 0, ()), Prod.fst (Prod.snd (Prod.snd (Prod.snd (Prod.snd (Prod.snd (Prod.snd g9_0)))))), (3000, 20, 60000, 100, ()), Prod.fst (Prod.snd (Prod.snd (Prod.snd (Prod.snd (Prod.snd (Prod.snd (Prod.snd (Prod.snd g9_0)))))))), Prod.fst (Prod.snd (Prod.snd (Prod.snd (Prod.snd (Prod.snd (Prod.snd (Prod.snd (Prod.snd (Prod.snd g9_0))))))))), Prod.fst (Prod.snd (Prod.snd (Prod.snd (Prod.snd (Prod.snd (Prod.snd (Prod.snd (Prod.snd (Prod.snd (Prod.snd g9_0)))))))))), Prod.fst (Prod.snd (Prod.snd (Prod.snd (Prod.snd (Prod.snd (Prod.snd (Prod.snd (Prod.snd (Prod.snd (Prod.snd (Prod.snd g9_0))))))))))), ())
theorem p4_0 : runF tab ext4 false 2 [] 2000 [] oks4 kds4 tys4 Try.f4.results [] [.code b4] (entE 0 0 sig4 ()) (entL sig4 ()) = some ([Dyn.mk (Ty.cons (Ty.sl (Ty.cons Ty.str (Ty.cons (Ty.int IntKind.i64) (Ty.cons (Ty.int IntKind.i64) (Ty.cons (Ty.int IntKind.i64) Ty.unit))))) (Ty.cons (Ty.cons (Ty.int IntKind.i64) (Ty.cons (Ty.int IntKind.i64) (Ty.cons (Ty.int IntKind.i64) (Ty.cons (Ty.int IntKind.i64) Ty.unit)))) (Ty.cons (Ty.sl (Ty.cons (Ty.int IntKind.i64) (Ty.cons (Ty.int IntKind.i64) (Ty.cons (Ty.int IntKind.i64) Ty.unit)))) (Ty.cons (Ty.sl (Ty.cons (Ty.int IntKind.i64) (Ty.cons (Ty.int IntKind.i64) (Ty.cons (Ty.int IntKind.i64) Ty.unit)))) (Ty.cons (Ty.cons (Ty.int IntKind.i64) (Ty.cons (Ty.int IntKind.i64) (Ty.cons (Ty.int IntKind.i64) Ty.unit))) (Ty.cons (Ty.cons (Ty.int IntKind.i64) (Ty.cons (Ty.int IntKind.i64) (Ty.cons (Ty.int IntKind.i64) Ty.unit))) (Ty.cons (Ty.sl (Ty.cons Ty.str (Ty.cons (Ty.int IntKind.i64) (Ty.cons (Ty.int IntKind.i64) Ty.unit)))) (Ty.cons (Ty.cons (Ty.int IntKind.i64) (Ty.cons (Ty.int IntKind.i64) (Ty.cons (Ty.int IntKind.i64) (Ty.cons (Ty.int IntKind.i64) Ty.unit)))) (Ty.cons (Ty.sl (Ty.cons Ty.str (Ty.cons (Ty.int IntKind.i64) (Ty.cons (Ty.int IntKind.i64) (Ty.cons (Ty.int IntKind.i64) Ty.unit))))) (Ty.cons (Ty.sl (Ty.cons (Ty.int IntKind.i64) (Ty.cons (Ty.int IntKind.i64) (Ty.cons (Ty.int IntKind.i64) Ty.unit)))) (Ty.cons (Ty.sl (Ty.cons Ty.str (Ty.cons (Ty.int IntKind.i64) (Ty.cons (Ty.int IntKind.i64) Ty.unit)))) (Ty.cons (Ty.sl (Ty.cons Ty.str (Ty.cons (Ty.int IntKind.i64) (Ty.cons (Ty.int IntKind.i64) Ty.unit)))) Ty.unit)))))))))))) (Prod.fst g9_0, (1000000, 2000, 120, 300000, ()), Prod.fst (Prod.snd (Prod.snd g9_0)), Prod.fst (Prod.snd (Prod.snd (Prod.snd g9_0))), (50000, 20000, 100, ()), (0, 0, 0, ()), Prod.fst (Prod.snd (Prod.snd (Prod.snd (Prod.snd (Prod.snd (Prod.snd g9_0)))))), (3000, 20, 60000, 100, ()), Prod.fst (Prod.snd (Prod.snd (Prod.snd (Prod.snd (Prod.snd (Prod.snd (Prod.snd (Prod.snd g9_0)))))))), Prod.fst (Prod.snd (Prod.snd (Prod.snd (Prod.snd (Prod.snd (Prod.snd (Prod.snd (Prod.snd (Prod.snd g9_0))))))))), Prod.fst (Prod.snd (Prod.snd (Prod.snd (Prod.snd (Prod.snd (Prod.snd (Prod.snd (Prod.snd (Prod.snd (Prod.snd g9_0)))))))))), Prod.fst (Prod.snd (Prod.snd (Prod.snd (Prod.snd (Prod.snd (Prod.snd (Prod.snd (Prod.snd (Prod.snd (Prod.snd (Prod.snd g9_0))))))))))), ())], [], [True]) := by kernel_rfl
theorem at4 (h : P4) (K : Ctx) (q : Nat → Value) : AtV Try.prog 4 (PostR kds4 oks4 [⟨Ty.cons (Ty.sl (Ty.cons Ty.str (Ty.cons (Ty.int IntKind.i64) (Ty.cons (Ty.int IntKind.i64) (Ty.cons (Ty.int IntKind.i64) Ty.unit))))) (Ty.cons (Ty.cons (Ty.int IntKind.i64) (Ty.cons (Ty.int IntKind.i64) (Ty.cons (Ty.int IntKind.i64) (Ty.cons (Ty.int IntKind.i64) Ty.unit)))) (Ty.cons (Ty.sl (Ty.cons (Ty.int IntKind.i64) (Ty.cons (Ty.int IntKind.i64) (Ty.cons (Ty.int IntKind.i64) Ty.unit)))) (Ty.cons (Ty.sl (Ty.cons (Ty.int IntKind.i64) (Ty.cons (Ty.int IntKind.i64) (Ty.cons (Ty.int IntKind.i64) Ty.unit)))) (Ty.cons (Ty.cons (Ty.int IntKind.i64) (Ty.cons (Ty.int IntKind.i64) (Ty.cons (Ty.int IntKind.i64) Ty.unit))) (Ty.cons (Ty.cons (Ty.int IntKind.i64) (Ty.cons (Ty.int IntKind.i64) (Ty.cons (Ty.int IntKind.i64) Ty.unit))) (Ty.cons (Ty.sl (Ty.cons Ty.str (Ty.cons (Ty.int IntKind.i64) (Ty.cons (Ty.int IntKind.i64) Ty.unit)))) (Ty.cons (Ty.cons (Ty.int IntKind.i64) (Ty.cons (Ty.int IntKind.i64) (Ty.cons (Ty.int IntKind.i64) (Ty.cons (Ty.int IntKind.i64) Ty.unit)))) (Ty.cons (Ty.sl (Ty.cons Ty.str (Ty.cons (Ty.int IntKind.i64) (Ty.cons (Ty.int IntKind.i64) (Ty.cons (Ty.int IntKind.i64) Ty.unit))))) (Ty.cons (Ty.sl (Ty.cons (Ty.int IntKind.i64) (Ty.cons (Ty.int IntKind.i64) (Ty.cons (Ty.int IntKind.i64) Ty.unit)))) (Ty.cons (Ty.sl (Ty.cons Ty.str (Ty.cons (Ty.int IntKind.i64) (Ty.cons (Ty.int IntKind.i64) Ty.unit)))) (Ty.cons (Ty.sl (Ty.cons Ty.str (Ty.cons (Ty.int IntKind.i64) (Ty.cons (Ty.int IntKind.i64) Ty.unit)))) Ty.unit))))))))))), g4_0⟩] [] [] q K) 2 K q [] [.code b4] (entE 0 0 sig4 ()) (entL sig4 ()) := by
  unfold P4 at h
  unfold g4_0
  exact AtV.fin Try.func4 tabOk ext4Ok mixed (p4_0) ⟨trivial, trivial⟩

def S4 : Am.Spec := { sig := sig4, pre := fun _ => P4, res := fun _ => [⟨Ty.cons (Ty.sl (Ty.cons Ty.str (Ty.cons (Ty.int IntKind.i64) (Ty.cons (Ty.int IntKind.i64) (Ty.cons (Ty.int IntKind.i64) Ty.unit))))) (Ty.cons (Ty.cons (Ty.int IntKind.i64) (Ty.cons (Ty.int IntKind.i64) (Ty.cons (Ty.int IntKind.i64) (Ty.cons (Ty.int IntKind.i64) Ty.unit)))) (Ty.cons (Ty.sl (Ty.cons (Ty.int IntKind.i64) (Ty.cons (Ty.int IntKind.i64) (Ty.cons (Ty.int IntKind.i64) Ty.unit)))) (Ty.cons (Ty.sl (Ty.cons (Ty.int IntKind.i64) (Ty.cons (Ty.int IntKind.i64) (Ty.cons (Ty.int IntKind.i64) Ty.unit)))) (Ty.cons (Ty.cons (Ty.int IntKind.i64) (Ty.cons (Ty.int IntKind.i64) (Ty.cons (Ty.int IntKind.i64) Ty.unit))) (Ty.cons (Ty.cons (Ty.int IntKind.i64) (Ty.cons (Ty.int IntKind.i64) (Ty.cons (Ty.int IntKind.i64) Ty.unit))) (Ty.cons (Ty.sl (Ty.cons Ty.str (Ty.cons (Ty.int IntKind.i64) (Ty.cons (Ty.int IntKind.i64) Ty.unit)))) (Ty.cons (Ty.cons (Ty.int IntKind.i64) (Ty.cons (Ty.int IntKind.i64) (Ty.cons (Ty.int IntKind.i64) (Ty.cons (Ty.int IntKind.i64) Ty.unit)))) (Ty.cons (Ty.sl (Ty.cons Ty.str (Ty.cons (Ty.int IntKind.i64) (Ty.cons (Ty.int IntKind.i64) (Ty.cons (Ty.int IntKind.i64) Ty.unit))))) (Ty.cons (Ty.sl (Ty.cons (Ty.int IntKind.i64) (Ty.cons (Ty.int IntKind.i64) (Ty.cons (Ty.int IntKind.i64) Ty.unit)))) (Ty.cons (Ty.sl (Ty.cons Ty.str (Ty.cons (Ty.int IntKind.i64) (Ty.cons (Ty.int IntKind.i64) Ty.unit)))) (Ty.cons (Ty.sl (Ty.cons Ty.str (Ty.cons (Ty.int IntKind.i64) (Ty.cons (Ty.int IntKind.i64) Ty.unit)))) Ty.unit))))))))))), g4_0⟩], kds := kds4 }
theorem con4 : Contract Try.prog 4 S4 := contract_of Try.func4 hb4 (Nat.le_of_ble_eq_true (by kernel_rfl)) (fun _ h _ K q => at4 h K q)


end Go.Proofs.Ytleifkpekoinlaa

/- Function 5 (impl.NewDesk): its runs between cut points. Written by a program of this repo (gen). -/
set_option linter.unusedVariables false
set_option linter.unusedSimpArgs false
set_option maxRecDepth 100000
namespace Go.Proofs.Ytleifkpekoinlaa
open Go Go.Am Go.Proofs
def ext5 : Ext := []
theorem ext5Ok : ExtOk Try.prog ext5 := trivial
/-! Function 5. -/
noncomputable def b5 : Code := bodyOf Try.f5
theorem hb5 : Try.f5.body = some b5 := by kernel_rfl
def sig5 : List AT := []
def tys5 : List Ty := [Ty.cons (Ty.sl (Ty.cons Ty.str (Ty.cons (Ty.int IntKind.i64) (Ty.cons (Ty.int IntKind.i64) (Ty.cons (Ty.int IntKind.i64) Ty.unit))))) (Ty.cons (Ty.cons (Ty.int IntKind.i64) (Ty.cons (Ty.int IntKind.i64) (Ty.cons (Ty.int IntKind.i64) (Ty.cons (Ty.int IntKind.i64) Ty.unit)))) (Ty.cons (Ty.sl (Ty.cons (Ty.int IntKind.i64) (Ty.cons (Ty.int IntKind.i64) (Ty.cons (Ty.int IntKind.i64) Ty.unit)))) (Ty.cons (Ty.sl (Ty.cons (Ty.int IntKind.i64) (Ty.cons (Ty.int IntKind.i64) (Ty.cons (Ty.int IntKind.i64) Ty.unit)))) (Ty.cons (Ty.cons (Ty.int IntKind.i64) (Ty.cons (Ty.int IntKind.i64) (Ty.cons (Ty.int IntKind.i64) Ty.unit))) (Ty.cons (Ty.cons (Ty.int IntKind.i64) (Ty.cons (Ty.int IntKind.i64) (Ty.cons (Ty.int IntKind.i64) Ty.unit))) (Ty.cons (Ty.sl (Ty.cons Ty.str (Ty.cons (Ty.int IntKind.i64) (Ty.cons (Ty.int IntKind.i64) Ty.unit)))) (Ty.cons (Ty.cons (Ty.int IntKind.i64) (Ty.cons (Ty.int IntKind.i64) (Ty.cons (Ty.int IntKind.i64) (Ty.cons (Ty.int IntKind.i64) Ty.unit)))) (Ty.cons (Ty.sl (Ty.cons Ty.str (Ty.cons (Ty.int IntKind.i64) (Ty.cons (Ty.int IntKind.i64) (Ty.cons (Ty.int IntKind.i64) Ty.unit))))) (Ty.cons (Ty.sl (Ty.cons (Ty.int IntKind.i64) (Ty.cons (Ty.int IntKind.i64) (Ty.cons (Ty.int IntKind.i64) Ty.unit)))) (Ty.cons (Ty.sl (Ty.cons Ty.str (Ty.cons (Ty.int IntKind.i64) (Ty.cons (Ty.int IntKind.i64) Ty.unit)))) (Ty.cons (Ty.sl (Ty.cons Ty.str (Ty.cons (Ty.int IntKind.i64) (Ty.cons (Ty.int IntKind.i64) Ty.unit)))) Ty.unit)))))))))))]
def kds5 : List RK := []
def oks5 : List AT := owns sig5
def P5 : Prop := True
def g5_0 : List (ByteArray × Int × Int × Int × Unit) × (Int × Int × Int × Int × Unit) × List (Int × Int × Int × Unit) × List (Int × Int × Int × Unit) × (Int × Int × Int × Unit) × (Int × Int × Int × Unit) × List (ByteArray × Int × Int × Unit) × (Int × Int × Int × Int × Unit) × List (ByteArray × Int × Int × Int × Unit) × List (Int × Int × Int × Unit) × List (ByteArray × Int × Int × Unit) × List (ByteArray × Int × Int × Unit) × Unit := ([], (1000000, 2000, 120, 300000, ()), [], [], (50000, 20000, 100, ()), (0, 0, 0, ()), [], (3000, 20, 60000, 100, ()), [], [], [], [], ())
theorem p5_0 : runF tab ext5 false 5 [] 2000 [] oks5 kds5 tys5 Try.f5.results [] [.code b5] (entE 0 0 sig5 ()) (entL sig5 ()) = some ([Dyn.mk (Ty.cons (Ty.sl (Ty.cons Ty.str (Ty.cons (Ty.int IntKind.i64) (Ty.cons (Ty.int IntKind.i64) (Ty.cons (Ty.int IntKind.i64) Ty.unit))))) (Ty.cons (Ty.cons (Ty.int IntKind.i64) (Ty.cons (Ty.int IntKind.i64) (Ty.cons (Ty.int IntKind.i64) (Ty.cons (Ty.int IntKind.i64) Ty.unit)))) (Ty.cons (Ty.sl (Ty.cons (Ty.int IntKind.i64) (Ty.cons (Ty.int IntKind.i64) (Ty.cons (Ty.int IntKind.i64) Ty.unit)))) (Ty.cons (Ty.sl (Ty.cons (Ty.int IntKind.i64) (Ty.cons (Ty.int IntKind.i64) (Ty.cons (Ty.int IntKind.i64) Ty.unit)))) (Ty.cons (Ty.cons (Ty.int IntKind.i64) (Ty.cons (Ty.int IntKind.i64) (Ty.cons (Ty.int IntKind.i64) Ty.unit))) (Ty.cons (Ty.cons (Ty.int IntKind.i64) (Ty.cons (Ty.int IntKind.i64) (Ty.cons (Ty.int IntKind.i64) Ty.unit))) (Ty.cons (Ty.sl (Ty.cons Ty.str (Ty.cons (Ty.int IntKind.i64) (Ty.cons (Ty.int IntKind.i64) Ty.unit)))) (Ty.cons (Ty.cons (Ty.int IntKind.i64) (Ty.cons (Ty.int IntKind.i64) (Ty.cons (Ty.int IntKind.i64) (Ty.cons (Ty.int IntKind.i64) Ty.unit)))) (Ty.cons (Ty.sl (Ty.cons Ty.str (Ty.cons (Ty.int IntKind.i64) (Ty.cons (Ty.int IntKind.i64) (Ty.cons (Ty.int IntKind.i64) Ty.unit))))) (Ty.cons (Ty.sl (Ty.cons (Ty.int IntKind.i64) (Ty.cons (Ty.int IntKind.i64) (Ty.cons (Ty.int IntKind.i64) Ty.unit)))) (Ty.cons (Ty.sl (Ty.cons Ty.str (Ty.cons (Ty.int IntKind.i64) (Ty.cons (Ty.int IntKind.i64) Ty.unit)))) (Ty.cons (Ty.sl (Ty.cons Ty.str (Ty.cons (Ty.int IntKind.i64) (Ty.cons (Ty.int IntKind.i64) Ty.unit)))) Ty.unit)))))))))))) ([], (1000000, 2000, 120, 300000, ()), [], [], (50000, 20000, 100, ()), (0, 0, 0, ()), [], (3000, 20, 60000, 100, ()), [], [], [], [], ())], [], []) := by kernel_rfl
theorem at5 (h : P5) (K : Ctx) (q : Nat → Value) : AtV Try.prog 5 (PostR kds5 oks5 [⟨Ty.cons (Ty.sl (Ty.cons Ty.str (Ty.cons (Ty.int IntKind.i64) (Ty.cons (Ty.int IntKind.i64) (Ty.cons (Ty.int IntKind.i64) Ty.unit))))) (Ty.cons (Ty.cons (Ty.int IntKind.i64) (Ty.cons (Ty.int IntKind.i64) (Ty.cons (Ty.int IntKind.i64) (Ty.cons (Ty.int IntKind.i64) Ty.unit)))) (Ty.cons (Ty.sl (Ty.cons (Ty.int IntKind.i64) (Ty.cons (Ty.int IntKind.i64) (Ty.cons (Ty.int IntKind.i64) Ty.unit)))) (Ty.cons (Ty.sl (Ty.cons (Ty.int IntKind.i64) (Ty.cons (Ty.int IntKind.i64) (Ty.cons (Ty.int IntKind.i64) Ty.unit)))) (Ty.cons (Ty.cons (Ty.int IntKind.i64) (Ty.cons (Ty.int IntKind.i64) (Ty.cons (Ty.int IntKind.i64) Ty.unit))) (Ty.cons (Ty.cons (Ty.int IntKind.i64) (Ty.cons (Ty.int IntKind.i64) (Ty.cons (Ty.int IntKind.i64) Ty.unit))) (Ty.cons (Ty.sl (Ty.cons Ty.str (Ty.cons (Ty.int IntKind.i64) (Ty.cons (Ty.int IntKind.i64) Ty.unit)))) (Ty.cons (Ty.cons (Ty.int IntKind.i64) (Ty.cons (Ty.int IntKind.i64) (Ty.cons (Ty.int IntKind.i64) (Ty.cons (Ty.int IntKind.i64) Ty.unit)))) (Ty.cons (Ty.sl (Ty.cons Ty.str (Ty.cons (Ty.int IntKind.i64) (Ty.cons (Ty.int IntKind.i64) (Ty.cons (Ty.int IntKind.i64) Ty.unit))))) (Ty.cons (Ty.sl (Ty.cons (Ty.int IntKind.i64) (Ty.cons (Ty.int IntKind.i64) (Ty.cons (Ty.int IntKind.i64) Ty.unit)))) (Ty.cons (Ty.sl (Ty.cons Ty.str (Ty.cons (Ty.int IntKind.i64) (Ty.cons (Ty.int IntKind.i64) Ty.unit)))) (Ty.cons (Ty.sl (Ty.cons Ty.str (Ty.cons (Ty.int IntKind.i64) (Ty.cons (Ty.int IntKind.i64) Ty.unit)))) Ty.unit))))))))))), g5_0⟩] [] [] q K) 5 K q [] [.code b5] (entE 0 0 sig5 ()) (entL sig5 ()) := by
  unfold P5 at h
  unfold g5_0
  exact AtV.fin Try.func5 tabOk ext5Ok mixed (p5_0) trivial

def S5 : Am.Spec := { sig := sig5, pre := fun _ => P5, res := fun _ => [⟨Ty.cons (Ty.sl (Ty.cons Ty.str (Ty.cons (Ty.int IntKind.i64) (Ty.cons (Ty.int IntKind.i64) (Ty.cons (Ty.int IntKind.i64) Ty.unit))))) (Ty.cons (Ty.cons (Ty.int IntKind.i64) (Ty.cons (Ty.int IntKind.i64) (Ty.cons (Ty.int IntKind.i64) (Ty.cons (Ty.int IntKind.i64) Ty.unit)))) (Ty.cons (Ty.sl (Ty.cons (Ty.int IntKind.i64) (Ty.cons (Ty.int IntKind.i64) (Ty.cons (Ty.int IntKind.i64) Ty.unit)))) (Ty.cons (Ty.sl (Ty.cons (Ty.int IntKind.i64) (Ty.cons (Ty.int IntKind.i64) (Ty.cons (Ty.int IntKind.i64) Ty.unit)))) (Ty.cons (Ty.cons (Ty.int IntKind.i64) (Ty.cons (Ty.int IntKind.i64) (Ty.cons (Ty.int IntKind.i64) Ty.unit))) (Ty.cons (Ty.cons (Ty.int IntKind.i64) (Ty.cons (Ty.int IntKind.i64) (Ty.cons (Ty.int IntKind.i64) Ty.unit))) (Ty.cons (Ty.sl (Ty.cons Ty.str (Ty.cons (Ty.int IntKind.i64) (Ty.cons (Ty.int IntKind.i64) Ty.unit)))) (Ty.cons (Ty.cons (Ty.int IntKind.i64) (Ty.cons (Ty.int IntKind.i64) (Ty.cons (Ty.int IntKind.i64) (Ty.cons (Ty.int IntKind.i64) Ty.unit)))) (Ty.cons (Ty.sl (Ty.cons Ty.str (Ty.cons (Ty.int IntKind.i64) (Ty.cons (Ty.int IntKind.i64) (Ty.cons (Ty.int IntKind.i64) Ty.unit))))) (Ty.cons (Ty.sl (Ty.cons (Ty.int IntKind.i64) (Ty.cons (Ty.int IntKind.i64) (Ty.cons (Ty.int IntKind.i64) Ty.unit)))) (Ty.cons (Ty.sl (Ty.cons Ty.str (Ty.cons (Ty.int IntKind.i64) (Ty.cons (Ty.int IntKind.i64) Ty.unit)))) (Ty.cons (Ty.sl (Ty.cons Ty.str (Ty.cons (Ty.int IntKind.i64) (Ty.cons (Ty.int IntKind.i64) Ty.unit)))) Ty.unit))))))))))), g5_0⟩], kds := kds5 }
theorem con5 : Contract Try.prog 5 S5 := contract_of Try.func5 hb5 (Nat.le_of_ble_eq_true (by kernel_rfl)) (fun _ h _ K q => at5 h K q)


end Go.Proofs.Ytleifkpekoinlaa

/- Function 38 (laws.eqBend): its runs between cut points. Written by a program of this repo (gen). -/
set_option linter.unusedVariables false
set_option linter.unusedSimpArgs false
set_option maxRecDepth 100000
namespace Go.Proofs.Ytleifkpekoinlaa
open Go Go.Am Go.Proofs
def ext38 : Ext := []
theorem ext38Ok : ExtOk Try.prog ext38 := trivial
/-! Function 38. -/
noncomputable def b38 : Code := bodyOf Try.f38
theorem hb38 : Try.f38.body = some b38 := by kernel_rfl
def sig38 : List AT := [AT.v (Ty.cons Ty.str (Ty.cons (Ty.int IntKind.i64) (Ty.cons (Ty.int IntKind.i64) (Ty.cons (Ty.int IntKind.i64) Ty.unit)))), AT.v (Ty.cons Ty.str (Ty.cons (Ty.int IntKind.i64) (Ty.cons (Ty.int IntKind.i64) (Ty.cons (Ty.int IntKind.i64) Ty.unit))))]
def tys38 : List Ty := [Ty.bool]
def kds38 : List RK := []
def oks38 : List AT := owns sig38
def P38 (x0 : ByteArray × Int × Int × Int × Unit) (x1 : ByteArray × Int × Int × Int × Unit) : Prop := True
def g38_0 (x0 : ByteArray × Int × Int × Int × Unit) (x1 : ByteArray × Int × Int × Int × Unit) : Bool := (if (!ByteArray.toList (Prod.fst x0) == ByteArray.toList (Prod.fst x1)) = true then Bool.false else (if (Prod.fst (Prod.snd x0) != Prod.fst (Prod.snd x1)) = true then Bool.false else (if (Prod.fst (Prod.snd (Prod.snd x0)) != Prod.fst (Prod.snd (Prod.snd x1))) = true then Bool.false else (if (Prod.fst (Prod.snd (Prod.snd (Prod.snd x0))) != Prod.fst (Prod.snd (Prod.snd (Prod.snd x1)))) = true then Bool.false else Bool.true))))
theorem p38_0 (x0 : ByteArray × Int × Int × Int × Unit) (x1 : ByteArray × Int × Int × Int × Unit) : runF tab ext38 false 25 [] 2000 [] oks38 kds38 tys38 Try.f38.results [true] [.code b38] (entE 0 0 sig38 (x0, x1, ())) (entL sig38 (x0, x1, ())) = some ([Dyn.mk Ty.bool Bool.false], [], [(!ByteArray.toList (Prod.fst x0) == ByteArray.toList (Prod.fst x1)) = Bool.true]) := by kernel_rfl
theorem p38_1 (x0 : ByteArray × Int × Int × Int × Unit) (x1 : ByteArray × Int × Int × Int × Unit) : runF tab ext38 false 25 [] 2000 [] oks38 kds38 tys38 Try.f38.results [false, true] [.code b38] (entE 0 0 sig38 (x0, x1, ())) (entL sig38 (x0, x1, ())) = some ([Dyn.mk Ty.bool Bool.false], [], [(!ByteArray.toList (Prod.fst x0) == ByteArray.toList (Prod.fst x1)) = Bool.false, (Prod.fst (Prod.snd x0) != Prod.fst (Prod.snd x1)) = Bool.true]) := by kernel_rfl
theorem p38_2 (x0 : ByteArray × Int × Int × Int × Unit) (x1 : ByteArray × Int × Int × Int × Unit) : runF tab ext38 false 25 [] 2000 [] oks38 kds38 tys38 Try.f38.results [false, false, true] [.code b38] (entE 0 0 sig38 (x0, x1, ())) (entL sig38 (x0, x1, ())) = some ([Dyn.mk Ty.bool Bool.false], [], [(!ByteArray.toList (Prod.fst x0) == ByteArray.toList (Prod.fst x1)) = Bool.false, (Prod.fst (Prod.snd x0) != Prod.fst (Prod.snd x1)) = Bool.false, (Prod.fst (Prod.snd (Prod.snd x0)) != Prod.fst (Prod.snd (Prod.snd x1))) = Bool.true]) := by kernel_rfl
theorem p38_3 (x0 : ByteArray × Int × Int × Int × Unit) (x1 : ByteArray × Int × Int × Int × Unit) : runF tab ext38 false 25 [] 2000 [] oks38 kds38 tys38 Try.f38.results [false, false, false, true] [.code b38] (entE 0 0 sig38 (x0, x1, ())) (entL sig38 (x0, x1, ())) = some ([Dyn.mk Ty.bool Bool.false], [], [(!ByteArray.toList (Prod.fst x0) == ByteArray.toList (Prod.fst x1)) = Bool.false, (Prod.fst (Prod.snd x0) != Prod.fst (Prod.snd x1)) = Bool.false, (Prod.fst (Prod.snd (Prod.snd x0)) != Prod.fst (Prod.snd (Prod.snd x1))) = Bool.false, (Prod.fst (Prod.snd (Prod.snd (Prod.snd x0))) != Prod.fst (Prod.snd (Prod.snd (Prod.snd x1)))) = Bool.true]) := by kernel_rfl
theorem p38_4 (x0 : ByteArray × Int × Int × Int × Unit) (x1 : ByteArray × Int × Int × Int × Unit) : runF tab ext38 false 25 [] 2000 [] oks38 kds38 tys38 Try.f38.results [false, false, false, false] [.code b38] (entE 0 0 sig38 (x0, x1, ())) (entL sig38 (x0, x1, ())) = some ([Dyn.mk Ty.bool Bool.true], [], [(!ByteArray.toList (Prod.fst x0) == ByteArray.toList (Prod.fst x1)) = Bool.false, (Prod.fst (Prod.snd x0) != Prod.fst (Prod.snd x1)) = Bool.false, (Prod.fst (Prod.snd (Prod.snd x0)) != Prod.fst (Prod.snd (Prod.snd x1))) = Bool.false, (Prod.fst (Prod.snd (Prod.snd (Prod.snd x0))) != Prod.fst (Prod.snd (Prod.snd (Prod.snd x1)))) = Bool.false]) := by kernel_rfl
theorem at38 (x0 : ByteArray × Int × Int × Int × Unit) (x1 : ByteArray × Int × Int × Int × Unit) (h : P38 x0 x1) (K : Ctx) (q : Nat → Value) : AtV Try.prog 38 (PostR kds38 oks38 [⟨Ty.bool, g38_0 x0 x1⟩] [] [] q K) 25 K q [] [.code b38] (entE 0 0 sig38 (x0, x1, ())) (entL sig38 (x0, x1, ())) := by
  unfold P38 at h
  unfold g38_0
  by_cases b0 : (!ByteArray.toList (Prod.fst x0) == ByteArray.toList (Prod.fst x1)) = true
  · try simp only [if_pos b0] at h ⊢
    exact AtV.fin Try.func38 tabOk ext38Ok mixed (p38_0 x0 x1) ⟨b0, trivial⟩
  · try simp only [if_neg b0] at h ⊢
    replace b0 := Bool.eq_false_iff.2 b0
    by_cases b1 : (Prod.fst (Prod.snd x0) != Prod.fst (Prod.snd x1)) = true
    · try simp only [if_pos b1] at h ⊢
      exact AtV.fin Try.func38 tabOk ext38Ok mixed (p38_1 x0 x1) ⟨b0, b1, trivial⟩
    · try simp only [if_neg b1] at h ⊢
      replace b1 := Bool.eq_false_iff.2 b1
      by_cases b2 : (Prod.fst (Prod.snd (Prod.snd x0)) != Prod.fst (Prod.snd (Prod.snd x1))) = true
      · try simp only [if_pos b2] at h ⊢
        exact AtV.fin Try.func38 tabOk ext38Ok mixed (p38_2 x0 x1) ⟨b0, b1, b2, trivial⟩
      · try simp only [if_neg b2] at h ⊢
        replace b2 := Bool.eq_false_iff.2 b2
        by_cases b3 : (Prod.fst (Prod.snd (Prod.snd (Prod.snd x0))) != Prod.fst (Prod.snd (Prod.snd (Prod.snd x1)))) = true
        · try simp only [if_pos b3] at h ⊢
          exact AtV.fin Try.func38 tabOk ext38Ok mixed (p38_3 x0 x1) ⟨b0, b1, b2, b3, trivial⟩
        · try simp only [if_neg b3] at h ⊢
          replace b3 := Bool.eq_false_iff.2 b3
          exact AtV.fin Try.func38 tabOk ext38Ok mixed (p38_4 x0 x1) ⟨b0, b1, b2, b3, trivial⟩

def S38 : Am.Spec := { sig := sig38, pre := fun ⟨x0, x1, _⟩ => P38 x0 x1, res := fun ⟨x0, x1, _⟩ => [⟨Ty.bool, g38_0 x0 x1⟩], kds := kds38 }
theorem con38 : Contract Try.prog 38 S38 := contract_of Try.func38 hb38 (Nat.le_of_ble_eq_true (by kernel_rfl)) (fun ⟨x0, x1, _⟩ h _ K q => at38 x0 x1 h K q)


theorem eqd38 (x y : (ByteArray × Int × Int × Int × Unit)) : g38_0 x y = true ↔ x = y := by
  obtain ⟨a, b, c, d, u⟩ := x
  obtain ⟨a', b', c', d', u'⟩ := y
  unfold g38_0
  simp only [Bool.not_eq_true', bytes_ne, bne_iff_ne, ne_eq, ite_not]
  by_cases h0 : a = a'
  · by_cases h1 : b = b'
    · by_cases h2 : c = c'
      · by_cases h3 : d = d'
        · simp [h0, h1, h2, h3]
        · simp [h0, h1, h2, h3]
      · simp [h0, h1, h2]
    · simp [h0, h1]
  · simp [h0]

end Go.Proofs.Ytleifkpekoinlaa

/- Function 10 (laws.eqBendS): its runs between cut points. Written by a program of this repo (gen). -/
set_option linter.unusedVariables false
set_option linter.unusedSimpArgs false
set_option maxRecDepth 100000
namespace Go.Proofs.Ytleifkpekoinlaa
open Go Go.Am Go.Proofs
def ext10 : Ext := [(38, S38)]
theorem call10_38 : Callable Try.prog 38 := ⟨Try.f38, Try.func38, by kernel_rfl, by kernel_rfl⟩
theorem ext10Ok : ExtOk Try.prog ext10 := ⟨⟨call10_38, con38⟩, trivial⟩
/-! Function 10. -/
noncomputable def b10 : Code := bodyOf Try.f10
theorem hb10 : Try.f10.body = some b10 := by kernel_rfl
def sig10 : List AT := [AT.v (Ty.sl (Ty.cons Ty.str (Ty.cons (Ty.int IntKind.i64) (Ty.cons (Ty.int IntKind.i64) (Ty.cons (Ty.int IntKind.i64) Ty.unit))))), AT.v (Ty.sl (Ty.cons Ty.str (Ty.cons (Ty.int IntKind.i64) (Ty.cons (Ty.int IntKind.i64) (Ty.cons (Ty.int IntKind.i64) Ty.unit)))))]
def tys10 : List Ty := [Ty.bool]
def kds10 : List RK := []
def oks10 : List AT := owns sig10
def E10_4 (v5 : Int) (x0 : List (ByteArray × Int × Int × Int × Unit)) (x1 : List (ByteArray × Int × Int × Int × Unit)) : Env := [(0, PV.a (Atom.sl (Ty.cons Ty.str (Ty.cons (Ty.int IntKind.i64) (Ty.cons (Ty.int IntKind.i64) (Ty.cons (Ty.int IntKind.i64) Ty.unit)))) x0)), (1, PV.a (Atom.sl (Ty.cons Ty.str (Ty.cons (Ty.int IntKind.i64) (Ty.cons (Ty.int IntKind.i64) (Ty.cons (Ty.int IntKind.i64) Ty.unit)))) x1)), (5, PV.a (Atom.val (Value.int IntKind.i64 v5)))]
def L10_4 (v5 : Int) (x0 : List (ByteArray × Int × Int × Int × Unit)) (x1 : List (ByteArray × Int × Int × Int × Unit)) : Heap := []
mutual
def R10 : Nat → List (ByteArray × Int × Int × Int × Unit) → List (ByteArray × Int × Int × Int × Unit) → List Dyn → Prop
  | 0, _, _, _ => False
  | n + 1, x0, x1, ds => (if ((↑(List.length x0) : Int) != (↑(List.length x1) : Int)) = true then (ds = [Dyn.mk Ty.bool Bool.false]) else (R10_4 n (0) (x0) (x1) ds))
def R10_4 : Nat → Int → List (ByteArray × Int × Int × Int × Unit) → List (ByteArray × Int × Int × Int × Unit) → List Dyn → Prop
  | 0, _, _, _, _ => False
  | n + 1, v5, x0, x1, ds => (if (Decidable.decide (v5 < (↑(List.length x0) : Int))) = true then ((0 ≤ v5) ∧ (v5 < (↑(List.length x0) : Int)) ∧ ((0 ≤ v5) ∧ (v5 < (↑(List.length x1) : Int)) ∧ (if (!g38_0 (List.getD x0 (Int.toNat v5) (ByteArray.empty, 0, 0, 0, ())) (List.getD x1 (Int.toNat v5) (ByteArray.empty, 0, 0, 0, ()))) = true then (ds = [Dyn.mk Ty.bool Bool.false]) else ((InR IntKind.i64 (v5 + 1)) ∧ (R10_4 n (v5 + 1) (x0) (x1) ds))))) else (ds = [Dyn.mk Ty.bool Bool.true]))
end
theorem p10_0 (x0 : List (ByteArray × Int × Int × Int × Unit)) (x1 : List (ByteArray × Int × Int × Int × Unit)) : runF tab ext10 false 27 [] 2000 [] oks10 kds10 tys10 Try.f10.results [true] [.code b10] (entE 0 0 sig10 (x0, x1, ())) (entL sig10 (x0, x1, ())) = some ([Dyn.mk Ty.bool Bool.false], [], [((↑(List.length x0) : Int) != (↑(List.length x1) : Int)) = Bool.true]) := by kernel_rfl
theorem p10_1 (x0 : List (ByteArray × Int × Int × Int × Unit)) (x1 : List (ByteArray × Int × Int × Int × Unit)) : Am.runN tab ext10 false 27 [] 2000 [] [] [0, 1, 5] [] [false] [.code b10] (entE 0 0 sig10 (x0, x1, ())) (entL sig10 (x0, x1, ())) = some (cutAt b10 4, E10_4 (0) (x0) (x1), L10_4 (0) (x0) (x1), [((↑(List.length x0) : Int) != (↑(List.length x1) : Int)) = Bool.false]) := by kernel_rfl
theorem p10_2 (v5 : Int) (x0 : List (ByteArray × Int × Int × Int × Unit)) (x1 : List (ByteArray × Int × Int × Int × Unit)) : runF tab ext10 false 27 [] 2000 [] oks10 kds10 tys10 Try.f10.results [true, true] (cutAt b10 4) (E10_4 v5 x0 x1) (L10_4 v5 x0 x1) = some ([Dyn.mk Ty.bool Bool.false], [], [Decidable.decide (v5 < (↑(List.length x0) : Int)) = Bool.true, 0 ≤ v5, v5 < (↑(List.length x0) : Int), 0 ≤ v5, v5 < (↑(List.length x1) : Int), True, (!g38_0 (List.getD x0 (Int.toNat v5) (ByteArray.empty, 0, 0, 0, ())) (List.getD x1 (Int.toNat v5) (ByteArray.empty, 0, 0, 0, ()))) = Bool.true]) := by kernel_rfl
theorem p10_3 (v5 : Int) (x0 : List (ByteArray × Int × Int × Int × Unit)) (x1 : List (ByteArray × Int × Int × Int × Unit)) : Am.runN tab ext10 false 27 [] 2000 [] [] [0, 1, 5] [] [true, false] (cutAt b10 4) (E10_4 v5 x0 x1) (L10_4 v5 x0 x1) = some (cutAt b10 4, E10_4 (v5 + 1) (x0) (x1), L10_4 (v5 + 1) (x0) (x1), [Decidable.decide (v5 < (↑(List.length x0) : Int)) = Bool.true, 0 ≤ v5, v5 < (↑(List.length x0) : Int), 0 ≤ v5, v5 < (↑(List.length x1) : Int), True, (!g38_0 (List.getD x0 (Int.toNat v5) (ByteArray.empty, 0, 0, 0, ())) (List.getD x1 (Int.toNat v5) (ByteArray.empty, 0, 0, 0, ()))) = Bool.false, InR IntKind.i64 (v5 + 1)]) := by kernel_rfl
theorem p10_4 (v5 : Int) (x0 : List (ByteArray × Int × Int × Int × Unit)) (x1 : List (ByteArray × Int × Int × Int × Unit)) : runF tab ext10 false 27 [] 2000 [] oks10 kds10 tys10 Try.f10.results [false] (cutAt b10 4) (E10_4 v5 x0 x1) (L10_4 v5 x0 x1) = some ([Dyn.mk Ty.bool Bool.true], [], [Decidable.decide (v5 < (↑(List.length x0) : Int)) = Bool.false]) := by kernel_rfl
theorem snd10 : ∀ n, (∀ (x0 : List (ByteArray × Int × Int × Int × Unit)) (x1 : List (ByteArray × Int × Int × Int × Unit)) ds, R10 n x0 x1 ds → ∀ K q, AtV Try.prog 10 (PostR kds10 oks10 ds [] [] q K) 27 K q [] [.code b10] (entE 0 0 sig10 (x0, x1, ())) (entL sig10 (x0, x1, ()))) ∧ (∀ (v5 : Int) (x0 : List (ByteArray × Int × Int × Int × Unit)) (x1 : List (ByteArray × Int × Int × Int × Unit)) ds, R10_4 n v5 x0 x1 ds → ∀ K q, AtV Try.prog 10 (PostR kds10 oks10 ds [] [] q K) 27 K q [] (cutAt b10 4) (E10_4 v5 x0 x1) (L10_4 v5 x0 x1)) := by
  intro n
  induction n with
  | zero => exact ⟨fun _ _ _ h => by simp only [R10] at h, fun _ _ _ _ h => by simp only [R10_4] at h⟩
  | succ n ih =>
  obtain ⟨ih, ih4⟩ := ih
  refine ⟨?_, ?_⟩
  · intro x0 x1 ds h K q
    rw [R10] at h
    by_cases b0 : ((↑(List.length x0) : Int) != (↑(List.length x1) : Int)) = true
    · rw [if_pos b0] at h
      subst h
      exact AtV.fin Try.func10 tabOk ext10Ok mixed (p10_0 x0 x1) ⟨b0, trivial⟩
    · rw [if_neg b0] at h
      replace b0 := Bool.eq_false_iff.2 b0
      exact AtV.runN tabOk ext10Ok mixed (p10_1 x0 x1) ⟨b0, trivial⟩ (ih4 _ _ _ _ h K q)

  · intro v5 x0 x1 ds h K q
    rw [R10_4] at h
    by_cases b0 : (Decidable.decide (v5 < (↑(List.length x0) : Int))) = true
    · rw [if_pos b0] at h
      obtain ⟨s0, s1, h⟩ := h
      obtain ⟨s2, s3, h⟩ := h
      by_cases b1 : (!g38_0 (List.getD x0 (Int.toNat v5) (ByteArray.empty, 0, 0, 0, ())) (List.getD x1 (Int.toNat v5) (ByteArray.empty, 0, 0, 0, ()))) = true
      · rw [if_pos b1] at h
        subst h
        exact AtV.fin Try.func10 tabOk ext10Ok mixed (p10_2 v5 x0 x1) ⟨b0, s0, s1, s2, s3, trivial, b1, trivial⟩
      · rw [if_neg b1] at h
        replace b1 := Bool.eq_false_iff.2 b1
        obtain ⟨s4, h⟩ := h
        exact AtV.runN tabOk ext10Ok mixed (p10_3 v5 x0 x1) ⟨b0, s0, s1, s2, s3, trivial, b1, s4, trivial⟩ (ih4 _ _ _ _ h K q)
    · rw [if_neg b0] at h
      replace b0 := Bool.eq_false_iff.2 b0
      subst h
      exact AtV.fin Try.func10 tabOk ext10Ok mixed (p10_4 v5 x0 x1) ⟨b0, trivial⟩



theorem eq10 (x0 x1 : List (ByteArray × Int × Int × Int × Unit)) (hl : x0.length = x1.length) (hm : x0.length ≤ maxLen) : ∀ k i : Nat, i + k = x0.length → R10_4 (k + 1) (i : Int) x0 x1 [⟨.bool, decide (x0.drop i = x1.drop i)⟩] := by
  intro k
  induction k with
  | zero =>
    intro i hi
    have h1 : ¬ (i : Int) < (x0.length : Int) := by omega
    rw [R10_4, if_neg (by simpa using h1), drop_end x0 i (by omega), drop_end x1 i (by omega)]
    simp
  | succ k ih =>
    intro i hi
    have h1 : (i : Int) < (x0.length : Int) := by omega
    rw [R10_4, if_pos (by simpa using h1)]
    refine ⟨by omega, h1, by omega, by omega, ?_⟩
    simp only [Int.toNat_natCast]
    rw [drop_get x0 i (ByteArray.empty, (0 : Int), (0 : Int), (0 : Int), ()) (by omega), drop_get x1 i (ByteArray.empty, (0 : Int), (0 : Int), (0 : Int), ()) (by omega)]
    by_cases he : x0.getD i (ByteArray.empty, (0 : Int), (0 : Int), (0 : Int), ()) = x1.getD i (ByteArray.empty, (0 : Int), (0 : Int), (0 : Int), ())
    · have hd := (eqd38 _ _).2 he
      rw [if_neg (by rw [hd]; simp)]
      refine ⟨inR_up hm (by omega), ?_⟩
      have := ih (i + 1) (by omega)
      simp only [he, List.cons.injEq, true_and]
      exact this
    · have hd : g38_0 (x0.getD i (ByteArray.empty, (0 : Int), (0 : Int), (0 : Int), ())) (x1.getD i (ByteArray.empty, (0 : Int), (0 : Int), (0 : Int), ())) = false :=
        Bool.eq_false_iff.2 fun h => he ((eqd38 _ _).1 h)
      rw [if_pos (by rw [hd]; rfl)]
      simp only [he, List.cons.injEq, false_and, decide_false]

def g10_0 (x0 x1 : List (ByteArray × Int × Int × Int × Unit)) : Bool := decide (x0 = x1)
def P10 (x0 x1 : List (ByteArray × Int × Int × Int × Unit)) : Prop := True
def S10 : Am.Spec := { sig := sig10, pre := fun ⟨x0, x1, _⟩ => P10 x0 x1, res := fun ⟨x0, x1, _⟩ => [⟨Ty.bool, g10_0 x0 x1⟩] }
theorem con10 : Contract Try.prog 10 S10 := contract_of Try.func10 hb10 (Nat.le_of_ble_eq_true (by kernel_rfl)) (fun ⟨x0, x1, _⟩ h hwf K q => by
  refine (snd10 (x0.length + 2)).1 x0 x1 _ ?_ K q
  show R10 (x0.length + 1 + 1) x0 x1 [⟨Ty.bool, decide (x0 = x1)⟩]
  rw [R10]
  by_cases hl : x0.length = x1.length
  · rw [if_neg (by simp [hl])]
    have := eq10 x0 x1 hl hwf.1.1 x0.length 0 (by omega)
    simpa using this
  · rw [if_pos (by simp; omega)]
    have : x0 ≠ x1 := fun h => hl (by rw [h])
    simp [this])

end Go.Proofs.Ytleifkpekoinlaa

/- Function 11 (laws.eqRope): its runs between cut points. Written by a program of this repo (gen). -/
set_option linter.unusedVariables false
set_option linter.unusedSimpArgs false
set_option maxRecDepth 100000
namespace Go.Proofs.Ytleifkpekoinlaa
open Go Go.Am Go.Proofs
def ext11 : Ext := []
theorem ext11Ok : ExtOk Try.prog ext11 := trivial
/-! Function 11. -/
noncomputable def b11 : Code := bodyOf Try.f11
theorem hb11 : Try.f11.body = some b11 := by kernel_rfl
def sig11 : List AT := [AT.v (Ty.cons (Ty.int IntKind.i64) (Ty.cons (Ty.int IntKind.i64) (Ty.cons (Ty.int IntKind.i64) (Ty.cons (Ty.int IntKind.i64) Ty.unit)))), AT.v (Ty.cons (Ty.int IntKind.i64) (Ty.cons (Ty.int IntKind.i64) (Ty.cons (Ty.int IntKind.i64) (Ty.cons (Ty.int IntKind.i64) Ty.unit))))]
def tys11 : List Ty := [Ty.bool]
def kds11 : List RK := []
def oks11 : List AT := owns sig11
def P11 (x0 : Int × Int × Int × Int × Unit) (x1 : Int × Int × Int × Int × Unit) : Prop := True
def g11_0 (x0 : Int × Int × Int × Int × Unit) (x1 : Int × Int × Int × Int × Unit) : Bool := (if (Prod.fst x0 != Prod.fst x1) = true then Bool.false else (if (Prod.fst (Prod.snd x0) != Prod.fst (Prod.snd x1)) = true then Bool.false else (if (Prod.fst (Prod.snd (Prod.snd x0)) != Prod.fst (Prod.snd (Prod.snd x1))) = true then Bool.false else (if (Prod.fst (Prod.snd (Prod.snd (Prod.snd x0))) != Prod.fst (Prod.snd (Prod.snd (Prod.snd x1)))) = true then Bool.false else Bool.true))))
theorem p11_0 (x0 : Int × Int × Int × Int × Unit) (x1 : Int × Int × Int × Int × Unit) : runF tab ext11 false 25 [] 2000 [] oks11 kds11 tys11 Try.f11.results [true] [.code b11] (entE 0 0 sig11 (x0, x1, ())) (entL sig11 (x0, x1, ())) = some ([Dyn.mk Ty.bool Bool.false], [], [(Prod.fst x0 != Prod.fst x1) = Bool.true]) := by kernel_rfl
theorem p11_1 (x0 : Int × Int × Int × Int × Unit) (x1 : Int × Int × Int × Int × Unit) : runF tab ext11 false 25 [] 2000 [] oks11 kds11 tys11 Try.f11.results [false, true] [.code b11] (entE 0 0 sig11 (x0, x1, ())) (entL sig11 (x0, x1, ())) = some ([Dyn.mk Ty.bool Bool.false], [], [(Prod.fst x0 != Prod.fst x1) = Bool.false, (Prod.fst (Prod.snd x0) != Prod.fst (Prod.snd x1)) = Bool.true]) := by kernel_rfl
theorem p11_2 (x0 : Int × Int × Int × Int × Unit) (x1 : Int × Int × Int × Int × Unit) : runF tab ext11 false 25 [] 2000 [] oks11 kds11 tys11 Try.f11.results [false, false, true] [.code b11] (entE 0 0 sig11 (x0, x1, ())) (entL sig11 (x0, x1, ())) = some ([Dyn.mk Ty.bool Bool.false], [], [(Prod.fst x0 != Prod.fst x1) = Bool.false, (Prod.fst (Prod.snd x0) != Prod.fst (Prod.snd x1)) = Bool.false, (Prod.fst (Prod.snd (Prod.snd x0)) != Prod.fst (Prod.snd (Prod.snd x1))) = Bool.true]) := by kernel_rfl
theorem p11_3 (x0 : Int × Int × Int × Int × Unit) (x1 : Int × Int × Int × Int × Unit) : runF tab ext11 false 25 [] 2000 [] oks11 kds11 tys11 Try.f11.results [false, false, false, true] [.code b11] (entE 0 0 sig11 (x0, x1, ())) (entL sig11 (x0, x1, ())) = some ([Dyn.mk Ty.bool Bool.false], [], [(Prod.fst x0 != Prod.fst x1) = Bool.false, (Prod.fst (Prod.snd x0) != Prod.fst (Prod.snd x1)) = Bool.false, (Prod.fst (Prod.snd (Prod.snd x0)) != Prod.fst (Prod.snd (Prod.snd x1))) = Bool.false, (Prod.fst (Prod.snd (Prod.snd (Prod.snd x0))) != Prod.fst (Prod.snd (Prod.snd (Prod.snd x1)))) = Bool.true]) := by kernel_rfl
theorem p11_4 (x0 : Int × Int × Int × Int × Unit) (x1 : Int × Int × Int × Int × Unit) : runF tab ext11 false 25 [] 2000 [] oks11 kds11 tys11 Try.f11.results [false, false, false, false] [.code b11] (entE 0 0 sig11 (x0, x1, ())) (entL sig11 (x0, x1, ())) = some ([Dyn.mk Ty.bool Bool.true], [], [(Prod.fst x0 != Prod.fst x1) = Bool.false, (Prod.fst (Prod.snd x0) != Prod.fst (Prod.snd x1)) = Bool.false, (Prod.fst (Prod.snd (Prod.snd x0)) != Prod.fst (Prod.snd (Prod.snd x1))) = Bool.false, (Prod.fst (Prod.snd (Prod.snd (Prod.snd x0))) != Prod.fst (Prod.snd (Prod.snd (Prod.snd x1)))) = Bool.false]) := by kernel_rfl
theorem at11 (x0 : Int × Int × Int × Int × Unit) (x1 : Int × Int × Int × Int × Unit) (h : P11 x0 x1) (K : Ctx) (q : Nat → Value) : AtV Try.prog 11 (PostR kds11 oks11 [⟨Ty.bool, g11_0 x0 x1⟩] [] [] q K) 25 K q [] [.code b11] (entE 0 0 sig11 (x0, x1, ())) (entL sig11 (x0, x1, ())) := by
  unfold P11 at h
  unfold g11_0
  by_cases b0 : (Prod.fst x0 != Prod.fst x1) = true
  · try simp only [if_pos b0] at h ⊢
    exact AtV.fin Try.func11 tabOk ext11Ok mixed (p11_0 x0 x1) ⟨b0, trivial⟩
  · try simp only [if_neg b0] at h ⊢
    replace b0 := Bool.eq_false_iff.2 b0
    by_cases b1 : (Prod.fst (Prod.snd x0) != Prod.fst (Prod.snd x1)) = true
    · try simp only [if_pos b1] at h ⊢
      exact AtV.fin Try.func11 tabOk ext11Ok mixed (p11_1 x0 x1) ⟨b0, b1, trivial⟩
    · try simp only [if_neg b1] at h ⊢
      replace b1 := Bool.eq_false_iff.2 b1
      by_cases b2 : (Prod.fst (Prod.snd (Prod.snd x0)) != Prod.fst (Prod.snd (Prod.snd x1))) = true
      · try simp only [if_pos b2] at h ⊢
        exact AtV.fin Try.func11 tabOk ext11Ok mixed (p11_2 x0 x1) ⟨b0, b1, b2, trivial⟩
      · try simp only [if_neg b2] at h ⊢
        replace b2 := Bool.eq_false_iff.2 b2
        by_cases b3 : (Prod.fst (Prod.snd (Prod.snd (Prod.snd x0))) != Prod.fst (Prod.snd (Prod.snd (Prod.snd x1)))) = true
        · try simp only [if_pos b3] at h ⊢
          exact AtV.fin Try.func11 tabOk ext11Ok mixed (p11_3 x0 x1) ⟨b0, b1, b2, b3, trivial⟩
        · try simp only [if_neg b3] at h ⊢
          replace b3 := Bool.eq_false_iff.2 b3
          exact AtV.fin Try.func11 tabOk ext11Ok mixed (p11_4 x0 x1) ⟨b0, b1, b2, b3, trivial⟩

def S11 : Am.Spec := { sig := sig11, pre := fun ⟨x0, x1, _⟩ => P11 x0 x1, res := fun ⟨x0, x1, _⟩ => [⟨Ty.bool, g11_0 x0 x1⟩], kds := kds11 }
theorem con11 : Contract Try.prog 11 S11 := contract_of Try.func11 hb11 (Nat.le_of_ble_eq_true (by kernel_rfl)) (fun ⟨x0, x1, _⟩ h _ K q => at11 x0 x1 h K q)


end Go.Proofs.Ytleifkpekoinlaa

/- Function 39 (laws.eqHour): its runs between cut points. Written by a program of this repo (gen). -/
set_option linter.unusedVariables false
set_option linter.unusedSimpArgs false
set_option maxRecDepth 100000
namespace Go.Proofs.Ytleifkpekoinlaa
open Go Go.Am Go.Proofs
def ext39 : Ext := []
theorem ext39Ok : ExtOk Try.prog ext39 := trivial
/-! Function 39. -/
noncomputable def b39 : Code := bodyOf Try.f39
theorem hb39 : Try.f39.body = some b39 := by kernel_rfl
def sig39 : List AT := [AT.v (Ty.cons (Ty.int IntKind.i64) (Ty.cons (Ty.int IntKind.i64) (Ty.cons (Ty.int IntKind.i64) Ty.unit))), AT.v (Ty.cons (Ty.int IntKind.i64) (Ty.cons (Ty.int IntKind.i64) (Ty.cons (Ty.int IntKind.i64) Ty.unit)))]
def tys39 : List Ty := [Ty.bool]
def kds39 : List RK := []
def oks39 : List AT := owns sig39
def P39 (x0 : Int × Int × Int × Unit) (x1 : Int × Int × Int × Unit) : Prop := True
def g39_0 (x0 : Int × Int × Int × Unit) (x1 : Int × Int × Int × Unit) : Bool := (if (Prod.fst x0 != Prod.fst x1) = true then Bool.false else (if (Prod.fst (Prod.snd x0) != Prod.fst (Prod.snd x1)) = true then Bool.false else (if (Prod.fst (Prod.snd (Prod.snd x0)) != Prod.fst (Prod.snd (Prod.snd x1))) = true then Bool.false else Bool.true)))
theorem p39_0 (x0 : Int × Int × Int × Unit) (x1 : Int × Int × Int × Unit) : runF tab ext39 false 20 [] 2000 [] oks39 kds39 tys39 Try.f39.results [true] [.code b39] (entE 0 0 sig39 (x0, x1, ())) (entL sig39 (x0, x1, ())) = some ([Dyn.mk Ty.bool Bool.false], [], [(Prod.fst x0 != Prod.fst x1) = Bool.true]) := by kernel_rfl
theorem p39_1 (x0 : Int × Int × Int × Unit) (x1 : Int × Int × Int × Unit) : runF tab ext39 false 20 [] 2000 [] oks39 kds39 tys39 Try.f39.results [false, true] [.code b39] (entE 0 0 sig39 (x0, x1, ())) (entL sig39 (x0, x1, ())) = some ([Dyn.mk Ty.bool Bool.false], [], [(Prod.fst x0 != Prod.fst x1) = Bool.false, (Prod.fst (Prod.snd x0) != Prod.fst (Prod.snd x1)) = Bool.true]) := by kernel_rfl
theorem p39_2 (x0 : Int × Int × Int × Unit) (x1 : Int × Int × Int × Unit) : runF tab ext39 false 20 [] 2000 [] oks39 kds39 tys39 Try.f39.results [false, false, true] [.code b39] (entE 0 0 sig39 (x0, x1, ())) (entL sig39 (x0, x1, ())) = some ([Dyn.mk Ty.bool Bool.false], [], [(Prod.fst x0 != Prod.fst x1) = Bool.false, (Prod.fst (Prod.snd x0) != Prod.fst (Prod.snd x1)) = Bool.false, (Prod.fst (Prod.snd (Prod.snd x0)) != Prod.fst (Prod.snd (Prod.snd x1))) = Bool.true]) := by kernel_rfl
theorem p39_3 (x0 : Int × Int × Int × Unit) (x1 : Int × Int × Int × Unit) : runF tab ext39 false 20 [] 2000 [] oks39 kds39 tys39 Try.f39.results [false, false, false] [.code b39] (entE 0 0 sig39 (x0, x1, ())) (entL sig39 (x0, x1, ())) = some ([Dyn.mk Ty.bool Bool.true], [], [(Prod.fst x0 != Prod.fst x1) = Bool.false, (Prod.fst (Prod.snd x0) != Prod.fst (Prod.snd x1)) = Bool.false, (Prod.fst (Prod.snd (Prod.snd x0)) != Prod.fst (Prod.snd (Prod.snd x1))) = Bool.false]) := by kernel_rfl
theorem at39 (x0 : Int × Int × Int × Unit) (x1 : Int × Int × Int × Unit) (h : P39 x0 x1) (K : Ctx) (q : Nat → Value) : AtV Try.prog 39 (PostR kds39 oks39 [⟨Ty.bool, g39_0 x0 x1⟩] [] [] q K) 20 K q [] [.code b39] (entE 0 0 sig39 (x0, x1, ())) (entL sig39 (x0, x1, ())) := by
  unfold P39 at h
  unfold g39_0
  by_cases b0 : (Prod.fst x0 != Prod.fst x1) = true
  · try simp only [if_pos b0] at h ⊢
    exact AtV.fin Try.func39 tabOk ext39Ok mixed (p39_0 x0 x1) ⟨b0, trivial⟩
  · try simp only [if_neg b0] at h ⊢
    replace b0 := Bool.eq_false_iff.2 b0
    by_cases b1 : (Prod.fst (Prod.snd x0) != Prod.fst (Prod.snd x1)) = true
    · try simp only [if_pos b1] at h ⊢
      exact AtV.fin Try.func39 tabOk ext39Ok mixed (p39_1 x0 x1) ⟨b0, b1, trivial⟩
    · try simp only [if_neg b1] at h ⊢
      replace b1 := Bool.eq_false_iff.2 b1
      by_cases b2 : (Prod.fst (Prod.snd (Prod.snd x0)) != Prod.fst (Prod.snd (Prod.snd x1))) = true
      · try simp only [if_pos b2] at h ⊢
        exact AtV.fin Try.func39 tabOk ext39Ok mixed (p39_2 x0 x1) ⟨b0, b1, b2, trivial⟩
      · try simp only [if_neg b2] at h ⊢
        replace b2 := Bool.eq_false_iff.2 b2
        exact AtV.fin Try.func39 tabOk ext39Ok mixed (p39_3 x0 x1) ⟨b0, b1, b2, trivial⟩

def S39 : Am.Spec := { sig := sig39, pre := fun ⟨x0, x1, _⟩ => P39 x0 x1, res := fun ⟨x0, x1, _⟩ => [⟨Ty.bool, g39_0 x0 x1⟩], kds := kds39 }
theorem con39 : Contract Try.prog 39 S39 := contract_of Try.func39 hb39 (Nat.le_of_ble_eq_true (by kernel_rfl)) (fun ⟨x0, x1, _⟩ h _ K q => at39 x0 x1 h K q)


theorem eqd39 (x y : (Int × Int × Int × Unit)) : g39_0 x y = true ↔ x = y := by
  obtain ⟨a, b, c, u⟩ := x
  obtain ⟨a', b', c', u'⟩ := y
  unfold g39_0
  simp only [Bool.not_eq_true', bytes_ne, bne_iff_ne, ne_eq, ite_not]
  by_cases h0 : a = a'
  · by_cases h1 : b = b'
    · by_cases h2 : c = c'
      · simp [h0, h1, h2]
      · simp [h0, h1, h2]
    · simp [h0, h1]
  · simp [h0]

end Go.Proofs.Ytleifkpekoinlaa

/- Function 12 (laws.eqHourS): its runs between cut points. Written by a program of this repo (gen). -/
set_option linter.unusedVariables false
set_option linter.unusedSimpArgs false
set_option maxRecDepth 100000
namespace Go.Proofs.Ytleifkpekoinlaa
open Go Go.Am Go.Proofs
def ext12 : Ext := [(39, S39)]
theorem call12_39 : Callable Try.prog 39 := ⟨Try.f39, Try.func39, by kernel_rfl, by kernel_rfl⟩
theorem ext12Ok : ExtOk Try.prog ext12 := ⟨⟨call12_39, con39⟩, trivial⟩
/-! Function 12. -/
noncomputable def b12 : Code := bodyOf Try.f12
theorem hb12 : Try.f12.body = some b12 := by kernel_rfl
def sig12 : List AT := [AT.v (Ty.sl (Ty.cons (Ty.int IntKind.i64) (Ty.cons (Ty.int IntKind.i64) (Ty.cons (Ty.int IntKind.i64) Ty.unit)))), AT.v (Ty.sl (Ty.cons (Ty.int IntKind.i64) (Ty.cons (Ty.int IntKind.i64) (Ty.cons (Ty.int IntKind.i64) Ty.unit))))]
def tys12 : List Ty := [Ty.bool]
def kds12 : List RK := []
def oks12 : List AT := owns sig12
def E12_4 (v5 : Int) (x0 : List (Int × Int × Int × Unit)) (x1 : List (Int × Int × Int × Unit)) : Env := [(0, PV.a (Atom.sl (Ty.cons (Ty.int IntKind.i64) (Ty.cons (Ty.int IntKind.i64) (Ty.cons (Ty.int IntKind.i64) Ty.unit))) x0)), (1, PV.a (Atom.sl (Ty.cons (Ty.int IntKind.i64) (Ty.cons (Ty.int IntKind.i64) (Ty.cons (Ty.int IntKind.i64) Ty.unit))) x1)), (5, PV.a (Atom.val (Value.int IntKind.i64 v5)))]
def L12_4 (v5 : Int) (x0 : List (Int × Int × Int × Unit)) (x1 : List (Int × Int × Int × Unit)) : Heap := []
mutual
def R12 : Nat → List (Int × Int × Int × Unit) → List (Int × Int × Int × Unit) → List Dyn → Prop
  | 0, _, _, _ => False
  | n + 1, x0, x1, ds => (if ((↑(List.length x0) : Int) != (↑(List.length x1) : Int)) = true then (ds = [Dyn.mk Ty.bool Bool.false]) else (R12_4 n (0) (x0) (x1) ds))
def R12_4 : Nat → Int → List (Int × Int × Int × Unit) → List (Int × Int × Int × Unit) → List Dyn → Prop
  | 0, _, _, _, _ => False
  | n + 1, v5, x0, x1, ds => (if (Decidable.decide (v5 < (↑(List.length x0) : Int))) = true then ((0 ≤ v5) ∧ (v5 < (↑(List.length x0) : Int)) ∧ ((0 ≤ v5) ∧ (v5 < (↑(List.length x1) : Int)) ∧ (if (!g39_0 (List.getD x0 (Int.toNat v5) (0, 0, 0, ())) (List.getD x1 (Int.toNat v5) (0, 0, 0, ()))) = true then (ds = [Dyn.mk Ty.bool Bool.false]) else ((InR IntKind.i64 (v5 + 1)) ∧ (R12_4 n (v5 + 1) (x0) (x1) ds))))) else (ds = [Dyn.mk Ty.bool Bool.true]))
end
theorem p12_0 (x0 : List (Int × Int × Int × Unit)) (x1 : List (Int × Int × Int × Unit)) : runF tab ext12 false 27 [] 2000 [] oks12 kds12 tys12 Try.f12.results [true] [.code b12] (entE 0 0 sig12 (x0, x1, ())) (entL sig12 (x0, x1, ())) = some ([Dyn.mk Ty.bool Bool.false], [], [((↑(List.length x0) : Int) != (↑(List.length x1) : Int)) = Bool.true]) := by kernel_rfl
theorem p12_1 (x0 : List (Int × Int × Int × Unit)) (x1 : List (Int × Int × Int × Unit)) : Am.runN tab ext12 false 27 [] 2000 [] [] [0, 1, 5] [] [false] [.code b12] (entE 0 0 sig12 (x0, x1, ())) (entL sig12 (x0, x1, ())) = some (cutAt b12 4, E12_4 (0) (x0) (x1), L12_4 (0) (x0) (x1), [((↑(List.length x0) : Int) != (↑(List.length x1) : Int)) = Bool.false]) := by kernel_rfl
theorem p12_2 (v5 : Int) (x0 : List (Int × Int × Int × Unit)) (x1 : List (Int × Int × Int × Unit)) : runF tab ext12 false 27 [] 2000 [] oks12 kds12 tys12 Try.f12.results [true, true] (cutAt b12 4) (E12_4 v5 x0 x1) (L12_4 v5 x0 x1) = some ([Dyn.mk Ty.bool Bool.false], [], [Decidable.decide (v5 < (↑(List.length x0) : Int)) = Bool.true, 0 ≤ v5, v5 < (↑(List.length x0) : Int), 0 ≤ v5, v5 < (↑(List.length x1) : Int), True, (!g39_0 (List.getD x0 (Int.toNat v5) (0, 0, 0, ())) (List.getD x1 (Int.toNat v5) (0, 0, 0, ()))) = Bool.true]) := by kernel_rfl
theorem p12_3 (v5 : Int) (x0 : List (Int × Int × Int × Unit)) (x1 : List (Int × Int × Int × Unit)) : Am.runN tab ext12 false 27 [] 2000 [] [] [0, 1, 5] [] [true, false] (cutAt b12 4) (E12_4 v5 x0 x1) (L12_4 v5 x0 x1) = some (cutAt b12 4, E12_4 (v5 + 1) (x0) (x1), L12_4 (v5 + 1) (x0) (x1), [Decidable.decide (v5 < (↑(List.length x0) : Int)) = Bool.true, 0 ≤ v5, v5 < (↑(List.length x0) : Int), 0 ≤ v5, v5 < (↑(List.length x1) : Int), True, (!g39_0 (List.getD x0 (Int.toNat v5) (0, 0, 0, ())) (List.getD x1 (Int.toNat v5) (0, 0, 0, ()))) = Bool.false, InR IntKind.i64 (v5 + 1)]) := by kernel_rfl
theorem p12_4 (v5 : Int) (x0 : List (Int × Int × Int × Unit)) (x1 : List (Int × Int × Int × Unit)) : runF tab ext12 false 27 [] 2000 [] oks12 kds12 tys12 Try.f12.results [false] (cutAt b12 4) (E12_4 v5 x0 x1) (L12_4 v5 x0 x1) = some ([Dyn.mk Ty.bool Bool.true], [], [Decidable.decide (v5 < (↑(List.length x0) : Int)) = Bool.false]) := by kernel_rfl
theorem snd12 : ∀ n, (∀ (x0 : List (Int × Int × Int × Unit)) (x1 : List (Int × Int × Int × Unit)) ds, R12 n x0 x1 ds → ∀ K q, AtV Try.prog 12 (PostR kds12 oks12 ds [] [] q K) 27 K q [] [.code b12] (entE 0 0 sig12 (x0, x1, ())) (entL sig12 (x0, x1, ()))) ∧ (∀ (v5 : Int) (x0 : List (Int × Int × Int × Unit)) (x1 : List (Int × Int × Int × Unit)) ds, R12_4 n v5 x0 x1 ds → ∀ K q, AtV Try.prog 12 (PostR kds12 oks12 ds [] [] q K) 27 K q [] (cutAt b12 4) (E12_4 v5 x0 x1) (L12_4 v5 x0 x1)) := by
  intro n
  induction n with
  | zero => exact ⟨fun _ _ _ h => by simp only [R12] at h, fun _ _ _ _ h => by simp only [R12_4] at h⟩
  | succ n ih =>
  obtain ⟨ih, ih4⟩ := ih
  refine ⟨?_, ?_⟩
  · intro x0 x1 ds h K q
    rw [R12] at h
    by_cases b0 : ((↑(List.length x0) : Int) != (↑(List.length x1) : Int)) = true
    · rw [if_pos b0] at h
      subst h
      exact AtV.fin Try.func12 tabOk ext12Ok mixed (p12_0 x0 x1) ⟨b0, trivial⟩
    · rw [if_neg b0] at h
      replace b0 := Bool.eq_false_iff.2 b0
      exact AtV.runN tabOk ext12Ok mixed (p12_1 x0 x1) ⟨b0, trivial⟩ (ih4 _ _ _ _ h K q)

  · intro v5 x0 x1 ds h K q
    rw [R12_4] at h
    by_cases b0 : (Decidable.decide (v5 < (↑(List.length x0) : Int))) = true
    · rw [if_pos b0] at h
      obtain ⟨s0, s1, h⟩ := h
      obtain ⟨s2, s3, h⟩ := h
      by_cases b1 : (!g39_0 (List.getD x0 (Int.toNat v5) (0, 0, 0, ())) (List.getD x1 (Int.toNat v5) (0, 0, 0, ()))) = true
      · rw [if_pos b1] at h
        subst h
        exact AtV.fin Try.func12 tabOk ext12Ok mixed (p12_2 v5 x0 x1) ⟨b0, s0, s1, s2, s3, trivial, b1, trivial⟩
      · rw [if_neg b1] at h
        replace b1 := Bool.eq_false_iff.2 b1
        obtain ⟨s4, h⟩ := h
        exact AtV.runN tabOk ext12Ok mixed (p12_3 v5 x0 x1) ⟨b0, s0, s1, s2, s3, trivial, b1, s4, trivial⟩ (ih4 _ _ _ _ h K q)
    · rw [if_neg b0] at h
      replace b0 := Bool.eq_false_iff.2 b0
      subst h
      exact AtV.fin Try.func12 tabOk ext12Ok mixed (p12_4 v5 x0 x1) ⟨b0, trivial⟩



theorem eq12 (x0 x1 : List (Int × Int × Int × Unit)) (hl : x0.length = x1.length) (hm : x0.length ≤ maxLen) : ∀ k i : Nat, i + k = x0.length → R12_4 (k + 1) (i : Int) x0 x1 [⟨.bool, decide (x0.drop i = x1.drop i)⟩] := by
  intro k
  induction k with
  | zero =>
    intro i hi
    have h1 : ¬ (i : Int) < (x0.length : Int) := by omega
    rw [R12_4, if_neg (by simpa using h1), drop_end x0 i (by omega), drop_end x1 i (by omega)]
    simp
  | succ k ih =>
    intro i hi
    have h1 : (i : Int) < (x0.length : Int) := by omega
    rw [R12_4, if_pos (by simpa using h1)]
    refine ⟨by omega, h1, by omega, by omega, ?_⟩
    simp only [Int.toNat_natCast]
    rw [drop_get x0 i ((0 : Int), (0 : Int), (0 : Int), ()) (by omega), drop_get x1 i ((0 : Int), (0 : Int), (0 : Int), ()) (by omega)]
    by_cases he : x0.getD i ((0 : Int), (0 : Int), (0 : Int), ()) = x1.getD i ((0 : Int), (0 : Int), (0 : Int), ())
    · have hd := (eqd39 _ _).2 he
      rw [if_neg (by rw [hd]; simp)]
      refine ⟨inR_up hm (by omega), ?_⟩
      have := ih (i + 1) (by omega)
      simp only [he, List.cons.injEq, true_and]
      exact this
    · have hd : g39_0 (x0.getD i ((0 : Int), (0 : Int), (0 : Int), ())) (x1.getD i ((0 : Int), (0 : Int), (0 : Int), ())) = false :=
        Bool.eq_false_iff.2 fun h => he ((eqd39 _ _).1 h)
      rw [if_pos (by rw [hd]; rfl)]
      simp only [he, List.cons.injEq, false_and, decide_false]

def g12_0 (x0 x1 : List (Int × Int × Int × Unit)) : Bool := decide (x0 = x1)
def P12 (x0 x1 : List (Int × Int × Int × Unit)) : Prop := True
def S12 : Am.Spec := { sig := sig12, pre := fun ⟨x0, x1, _⟩ => P12 x0 x1, res := fun ⟨x0, x1, _⟩ => [⟨Ty.bool, g12_0 x0 x1⟩] }
theorem con12 : Contract Try.prog 12 S12 := contract_of Try.func12 hb12 (Nat.le_of_ble_eq_true (by kernel_rfl)) (fun ⟨x0, x1, _⟩ h hwf K q => by
  refine (snd12 (x0.length + 2)).1 x0 x1 _ ?_ K q
  show R12 (x0.length + 1 + 1) x0 x1 [⟨Ty.bool, decide (x0 = x1)⟩]
  rw [R12]
  by_cases hl : x0.length = x1.length
  · rw [if_neg (by simp [hl])]
    have := eq12 x0 x1 hl hwf.1.1 x0.length 0 (by omega)
    simpa using this
  · rw [if_pos (by simp; omega)]
    have : x0 ≠ x1 := fun h => hl (by rw [h])
    simp [this])

end Go.Proofs.Ytleifkpekoinlaa

/- Function 40 (laws.eqLimit): its runs between cut points. Written by a program of this repo (gen). -/
set_option linter.unusedVariables false
set_option linter.unusedSimpArgs false
set_option maxRecDepth 100000
namespace Go.Proofs.Ytleifkpekoinlaa
open Go Go.Am Go.Proofs
def ext40 : Ext := []
theorem ext40Ok : ExtOk Try.prog ext40 := trivial
/-! Function 40. -/
noncomputable def b40 : Code := bodyOf Try.f40
theorem hb40 : Try.f40.body = some b40 := by kernel_rfl
def sig40 : List AT := [AT.v (Ty.cons (Ty.int IntKind.i64) (Ty.cons (Ty.int IntKind.i64) (Ty.cons (Ty.int IntKind.i64) Ty.unit))), AT.v (Ty.cons (Ty.int IntKind.i64) (Ty.cons (Ty.int IntKind.i64) (Ty.cons (Ty.int IntKind.i64) Ty.unit)))]
def tys40 : List Ty := [Ty.bool]
def kds40 : List RK := []
def oks40 : List AT := owns sig40
def P40 (x0 : Int × Int × Int × Unit) (x1 : Int × Int × Int × Unit) : Prop := True
def g40_0 (x0 : Int × Int × Int × Unit) (x1 : Int × Int × Int × Unit) : Bool := (if (Prod.fst x0 != Prod.fst x1) = true then Bool.false else (if (Prod.fst (Prod.snd x0) != Prod.fst (Prod.snd x1)) = true then Bool.false else (if (Prod.fst (Prod.snd (Prod.snd x0)) != Prod.fst (Prod.snd (Prod.snd x1))) = true then Bool.false else Bool.true)))
theorem p40_0 (x0 : Int × Int × Int × Unit) (x1 : Int × Int × Int × Unit) : runF tab ext40 false 20 [] 2000 [] oks40 kds40 tys40 Try.f40.results [true] [.code b40] (entE 0 0 sig40 (x0, x1, ())) (entL sig40 (x0, x1, ())) = some ([Dyn.mk Ty.bool Bool.false], [], [(Prod.fst x0 != Prod.fst x1) = Bool.true]) := by kernel_rfl
theorem p40_1 (x0 : Int × Int × Int × Unit) (x1 : Int × Int × Int × Unit) : runF tab ext40 false 20 [] 2000 [] oks40 kds40 tys40 Try.f40.results [false, true] [.code b40] (entE 0 0 sig40 (x0, x1, ())) (entL sig40 (x0, x1, ())) = some ([Dyn.mk Ty.bool Bool.false], [], [(Prod.fst x0 != Prod.fst x1) = Bool.false, (Prod.fst (Prod.snd x0) != Prod.fst (Prod.snd x1)) = Bool.true]) := by kernel_rfl
theorem p40_2 (x0 : Int × Int × Int × Unit) (x1 : Int × Int × Int × Unit) : runF tab ext40 false 20 [] 2000 [] oks40 kds40 tys40 Try.f40.results [false, false, true] [.code b40] (entE 0 0 sig40 (x0, x1, ())) (entL sig40 (x0, x1, ())) = some ([Dyn.mk Ty.bool Bool.false], [], [(Prod.fst x0 != Prod.fst x1) = Bool.false, (Prod.fst (Prod.snd x0) != Prod.fst (Prod.snd x1)) = Bool.false, (Prod.fst (Prod.snd (Prod.snd x0)) != Prod.fst (Prod.snd (Prod.snd x1))) = Bool.true]) := by kernel_rfl
theorem p40_3 (x0 : Int × Int × Int × Unit) (x1 : Int × Int × Int × Unit) : runF tab ext40 false 20 [] 2000 [] oks40 kds40 tys40 Try.f40.results [false, false, false] [.code b40] (entE 0 0 sig40 (x0, x1, ())) (entL sig40 (x0, x1, ())) = some ([Dyn.mk Ty.bool Bool.true], [], [(Prod.fst x0 != Prod.fst x1) = Bool.false, (Prod.fst (Prod.snd x0) != Prod.fst (Prod.snd x1)) = Bool.false, (Prod.fst (Prod.snd (Prod.snd x0)) != Prod.fst (Prod.snd (Prod.snd x1))) = Bool.false]) := by kernel_rfl
theorem at40 (x0 : Int × Int × Int × Unit) (x1 : Int × Int × Int × Unit) (h : P40 x0 x1) (K : Ctx) (q : Nat → Value) : AtV Try.prog 40 (PostR kds40 oks40 [⟨Ty.bool, g40_0 x0 x1⟩] [] [] q K) 20 K q [] [.code b40] (entE 0 0 sig40 (x0, x1, ())) (entL sig40 (x0, x1, ())) := by
  unfold P40 at h
  unfold g40_0
  by_cases b0 : (Prod.fst x0 != Prod.fst x1) = true
  · try simp only [if_pos b0] at h ⊢
    exact AtV.fin Try.func40 tabOk ext40Ok mixed (p40_0 x0 x1) ⟨b0, trivial⟩
  · try simp only [if_neg b0] at h ⊢
    replace b0 := Bool.eq_false_iff.2 b0
    by_cases b1 : (Prod.fst (Prod.snd x0) != Prod.fst (Prod.snd x1)) = true
    · try simp only [if_pos b1] at h ⊢
      exact AtV.fin Try.func40 tabOk ext40Ok mixed (p40_1 x0 x1) ⟨b0, b1, trivial⟩
    · try simp only [if_neg b1] at h ⊢
      replace b1 := Bool.eq_false_iff.2 b1
      by_cases b2 : (Prod.fst (Prod.snd (Prod.snd x0)) != Prod.fst (Prod.snd (Prod.snd x1))) = true
      · try simp only [if_pos b2] at h ⊢
        exact AtV.fin Try.func40 tabOk ext40Ok mixed (p40_2 x0 x1) ⟨b0, b1, b2, trivial⟩
      · try simp only [if_neg b2] at h ⊢
        replace b2 := Bool.eq_false_iff.2 b2
        exact AtV.fin Try.func40 tabOk ext40Ok mixed (p40_3 x0 x1) ⟨b0, b1, b2, trivial⟩

def S40 : Am.Spec := { sig := sig40, pre := fun ⟨x0, x1, _⟩ => P40 x0 x1, res := fun ⟨x0, x1, _⟩ => [⟨Ty.bool, g40_0 x0 x1⟩], kds := kds40 }
theorem con40 : Contract Try.prog 40 S40 := contract_of Try.func40 hb40 (Nat.le_of_ble_eq_true (by kernel_rfl)) (fun ⟨x0, x1, _⟩ h _ K q => at40 x0 x1 h K q)


theorem eqd40 (x y : (Int × Int × Int × Unit)) : g40_0 x y = true ↔ x = y := by
  obtain ⟨a, b, c, u⟩ := x
  obtain ⟨a', b', c', u'⟩ := y
  unfold g40_0
  simp only [Bool.not_eq_true', bytes_ne, bne_iff_ne, ne_eq, ite_not]
  by_cases h0 : a = a'
  · by_cases h1 : b = b'
    · by_cases h2 : c = c'
      · simp [h0, h1, h2]
      · simp [h0, h1, h2]
    · simp [h0, h1]
  · simp [h0]

end Go.Proofs.Ytleifkpekoinlaa

/- Function 13 (laws.eqLimitS): its runs between cut points. Written by a program of this repo (gen). -/
set_option linter.unusedVariables false
set_option linter.unusedSimpArgs false
set_option maxRecDepth 100000
namespace Go.Proofs.Ytleifkpekoinlaa
open Go Go.Am Go.Proofs
def ext13 : Ext := [(40, S40)]
theorem call13_40 : Callable Try.prog 40 := ⟨Try.f40, Try.func40, by kernel_rfl, by kernel_rfl⟩
theorem ext13Ok : ExtOk Try.prog ext13 := ⟨⟨call13_40, con40⟩, trivial⟩
/-! Function 13. -/
noncomputable def b13 : Code := bodyOf Try.f13
theorem hb13 : Try.f13.body = some b13 := by kernel_rfl
def sig13 : List AT := [AT.v (Ty.sl (Ty.cons (Ty.int IntKind.i64) (Ty.cons (Ty.int IntKind.i64) (Ty.cons (Ty.int IntKind.i64) Ty.unit)))), AT.v (Ty.sl (Ty.cons (Ty.int IntKind.i64) (Ty.cons (Ty.int IntKind.i64) (Ty.cons (Ty.int IntKind.i64) Ty.unit))))]
def tys13 : List Ty := [Ty.bool]
def kds13 : List RK := []
def oks13 : List AT := owns sig13
def E13_4 (v5 : Int) (x0 : List (Int × Int × Int × Unit)) (x1 : List (Int × Int × Int × Unit)) : Env := [(0, PV.a (Atom.sl (Ty.cons (Ty.int IntKind.i64) (Ty.cons (Ty.int IntKind.i64) (Ty.cons (Ty.int IntKind.i64) Ty.unit))) x0)), (1, PV.a (Atom.sl (Ty.cons (Ty.int IntKind.i64) (Ty.cons (Ty.int IntKind.i64) (Ty.cons (Ty.int IntKind.i64) Ty.unit))) x1)), (5, PV.a (Atom.val (Value.int IntKind.i64 v5)))]
def L13_4 (v5 : Int) (x0 : List (Int × Int × Int × Unit)) (x1 : List (Int × Int × Int × Unit)) : Heap := []
mutual
def R13 : Nat → List (Int × Int × Int × Unit) → List (Int × Int × Int × Unit) → List Dyn → Prop
  | 0, _, _, _ => False
  | n + 1, x0, x1, ds => (if ((↑(List.length x0) : Int) != (↑(List.length x1) : Int)) = true then (ds = [Dyn.mk Ty.bool Bool.false]) else (R13_4 n (0) (x0) (x1) ds))
def R13_4 : Nat → Int → List (Int × Int × Int × Unit) → List (Int × Int × Int × Unit) → List Dyn → Prop
  | 0, _, _, _, _ => False
  | n + 1, v5, x0, x1, ds => (if (Decidable.decide (v5 < (↑(List.length x0) : Int))) = true then ((0 ≤ v5) ∧ (v5 < (↑(List.length x0) : Int)) ∧ ((0 ≤ v5) ∧ (v5 < (↑(List.length x1) : Int)) ∧ (if (!g40_0 (List.getD x0 (Int.toNat v5) (0, 0, 0, ())) (List.getD x1 (Int.toNat v5) (0, 0, 0, ()))) = true then (ds = [Dyn.mk Ty.bool Bool.false]) else ((InR IntKind.i64 (v5 + 1)) ∧ (R13_4 n (v5 + 1) (x0) (x1) ds))))) else (ds = [Dyn.mk Ty.bool Bool.true]))
end
theorem p13_0 (x0 : List (Int × Int × Int × Unit)) (x1 : List (Int × Int × Int × Unit)) : runF tab ext13 false 27 [] 2000 [] oks13 kds13 tys13 Try.f13.results [true] [.code b13] (entE 0 0 sig13 (x0, x1, ())) (entL sig13 (x0, x1, ())) = some ([Dyn.mk Ty.bool Bool.false], [], [((↑(List.length x0) : Int) != (↑(List.length x1) : Int)) = Bool.true]) := by kernel_rfl
theorem p13_1 (x0 : List (Int × Int × Int × Unit)) (x1 : List (Int × Int × Int × Unit)) : Am.runN tab ext13 false 27 [] 2000 [] [] [0, 1, 5] [] [false] [.code b13] (entE 0 0 sig13 (x0, x1, ())) (entL sig13 (x0, x1, ())) = some (cutAt b13 4, E13_4 (0) (x0) (x1), L13_4 (0) (x0) (x1), [((↑(List.length x0) : Int) != (↑(List.length x1) : Int)) = Bool.false]) := by kernel_rfl
theorem p13_2 (v5 : Int) (x0 : List (Int × Int × Int × Unit)) (x1 : List (Int × Int × Int × Unit)) : runF tab ext13 false 27 [] 2000 [] oks13 kds13 tys13 Try.f13.results [true, true] (cutAt b13 4) (E13_4 v5 x0 x1) (L13_4 v5 x0 x1) = some ([Dyn.mk Ty.bool Bool.false], [], [Decidable.decide (v5 < (↑(List.length x0) : Int)) = Bool.true, 0 ≤ v5, v5 < (↑(List.length x0) : Int), 0 ≤ v5, v5 < (↑(List.length x1) : Int), True, (!g40_0 (List.getD x0 (Int.toNat v5) (0, 0, 0, ())) (List.getD x1 (Int.toNat v5) (0, 0, 0, ()))) = Bool.true]) := by kernel_rfl
theorem p13_3 (v5 : Int) (x0 : List (Int × Int × Int × Unit)) (x1 : List (Int × Int × Int × Unit)) : Am.runN tab ext13 false 27 [] 2000 [] [] [0, 1, 5] [] [true, false] (cutAt b13 4) (E13_4 v5 x0 x1) (L13_4 v5 x0 x1) = some (cutAt b13 4, E13_4 (v5 + 1) (x0) (x1), L13_4 (v5 + 1) (x0) (x1), [Decidable.decide (v5 < (↑(List.length x0) : Int)) = Bool.true, 0 ≤ v5, v5 < (↑(List.length x0) : Int), 0 ≤ v5, v5 < (↑(List.length x1) : Int), True, (!g40_0 (List.getD x0 (Int.toNat v5) (0, 0, 0, ())) (List.getD x1 (Int.toNat v5) (0, 0, 0, ()))) = Bool.false, InR IntKind.i64 (v5 + 1)]) := by kernel_rfl
theorem p13_4 (v5 : Int) (x0 : List (Int × Int × Int × Unit)) (x1 : List (Int × Int × Int × Unit)) : runF tab ext13 false 27 [] 2000 [] oks13 kds13 tys13 Try.f13.results [false] (cutAt b13 4) (E13_4 v5 x0 x1) (L13_4 v5 x0 x1) = some ([Dyn.mk Ty.bool Bool.true], [], [Decidable.decide (v5 < (↑(List.length x0) : Int)) = Bool.false]) := by kernel_rfl
theorem snd13 : ∀ n, (∀ (x0 : List (Int × Int × Int × Unit)) (x1 : List (Int × Int × Int × Unit)) ds, R13 n x0 x1 ds → ∀ K q, AtV Try.prog 13 (PostR kds13 oks13 ds [] [] q K) 27 K q [] [.code b13] (entE 0 0 sig13 (x0, x1, ())) (entL sig13 (x0, x1, ()))) ∧ (∀ (v5 : Int) (x0 : List (Int × Int × Int × Unit)) (x1 : List (Int × Int × Int × Unit)) ds, R13_4 n v5 x0 x1 ds → ∀ K q, AtV Try.prog 13 (PostR kds13 oks13 ds [] [] q K) 27 K q [] (cutAt b13 4) (E13_4 v5 x0 x1) (L13_4 v5 x0 x1)) := by
  intro n
  induction n with
  | zero => exact ⟨fun _ _ _ h => by simp only [R13] at h, fun _ _ _ _ h => by simp only [R13_4] at h⟩
  | succ n ih =>
  obtain ⟨ih, ih4⟩ := ih
  refine ⟨?_, ?_⟩
  · intro x0 x1 ds h K q
    rw [R13] at h
    by_cases b0 : ((↑(List.length x0) : Int) != (↑(List.length x1) : Int)) = true
    · rw [if_pos b0] at h
      subst h
      exact AtV.fin Try.func13 tabOk ext13Ok mixed (p13_0 x0 x1) ⟨b0, trivial⟩
    · rw [if_neg b0] at h
      replace b0 := Bool.eq_false_iff.2 b0
      exact AtV.runN tabOk ext13Ok mixed (p13_1 x0 x1) ⟨b0, trivial⟩ (ih4 _ _ _ _ h K q)

  · intro v5 x0 x1 ds h K q
    rw [R13_4] at h
    by_cases b0 : (Decidable.decide (v5 < (↑(List.length x0) : Int))) = true
    · rw [if_pos b0] at h
      obtain ⟨s0, s1, h⟩ := h
      obtain ⟨s2, s3, h⟩ := h
      by_cases b1 : (!g40_0 (List.getD x0 (Int.toNat v5) (0, 0, 0, ())) (List.getD x1 (Int.toNat v5) (0, 0, 0, ()))) = true
      · rw [if_pos b1] at h
        subst h
        exact AtV.fin Try.func13 tabOk ext13Ok mixed (p13_2 v5 x0 x1) ⟨b0, s0, s1, s2, s3, trivial, b1, trivial⟩
      · rw [if_neg b1] at h
        replace b1 := Bool.eq_false_iff.2 b1
        obtain ⟨s4, h⟩ := h
        exact AtV.runN tabOk ext13Ok mixed (p13_3 v5 x0 x1) ⟨b0, s0, s1, s2, s3, trivial, b1, s4, trivial⟩ (ih4 _ _ _ _ h K q)
    · rw [if_neg b0] at h
      replace b0 := Bool.eq_false_iff.2 b0
      subst h
      exact AtV.fin Try.func13 tabOk ext13Ok mixed (p13_4 v5 x0 x1) ⟨b0, trivial⟩



theorem eq13 (x0 x1 : List (Int × Int × Int × Unit)) (hl : x0.length = x1.length) (hm : x0.length ≤ maxLen) : ∀ k i : Nat, i + k = x0.length → R13_4 (k + 1) (i : Int) x0 x1 [⟨.bool, decide (x0.drop i = x1.drop i)⟩] := by
  intro k
  induction k with
  | zero =>
    intro i hi
    have h1 : ¬ (i : Int) < (x0.length : Int) := by omega
    rw [R13_4, if_neg (by simpa using h1), drop_end x0 i (by omega), drop_end x1 i (by omega)]
    simp
  | succ k ih =>
    intro i hi
    have h1 : (i : Int) < (x0.length : Int) := by omega
    rw [R13_4, if_pos (by simpa using h1)]
    refine ⟨by omega, h1, by omega, by omega, ?_⟩
    simp only [Int.toNat_natCast]
    rw [drop_get x0 i ((0 : Int), (0 : Int), (0 : Int), ()) (by omega), drop_get x1 i ((0 : Int), (0 : Int), (0 : Int), ()) (by omega)]
    by_cases he : x0.getD i ((0 : Int), (0 : Int), (0 : Int), ()) = x1.getD i ((0 : Int), (0 : Int), (0 : Int), ())
    · have hd := (eqd40 _ _).2 he
      rw [if_neg (by rw [hd]; simp)]
      refine ⟨inR_up hm (by omega), ?_⟩
      have := ih (i + 1) (by omega)
      simp only [he, List.cons.injEq, true_and]
      exact this
    · have hd : g40_0 (x0.getD i ((0 : Int), (0 : Int), (0 : Int), ())) (x1.getD i ((0 : Int), (0 : Int), (0 : Int), ())) = false :=
        Bool.eq_false_iff.2 fun h => he ((eqd40 _ _).1 h)
      rw [if_pos (by rw [hd]; rfl)]
      simp only [he, List.cons.injEq, false_and, decide_false]

def g13_0 (x0 x1 : List (Int × Int × Int × Unit)) : Bool := decide (x0 = x1)
def P13 (x0 x1 : List (Int × Int × Int × Unit)) : Prop := True
def S13 : Am.Spec := { sig := sig13, pre := fun ⟨x0, x1, _⟩ => P13 x0 x1, res := fun ⟨x0, x1, _⟩ => [⟨Ty.bool, g13_0 x0 x1⟩] }
theorem con13 : Contract Try.prog 13 S13 := contract_of Try.func13 hb13 (Nat.le_of_ble_eq_true (by kernel_rfl)) (fun ⟨x0, x1, _⟩ h hwf K q => by
  refine (snd13 (x0.length + 2)).1 x0 x1 _ ?_ K q
  show R13 (x0.length + 1 + 1) x0 x1 [⟨Ty.bool, decide (x0 = x1)⟩]
  rw [R13]
  by_cases hl : x0.length = x1.length
  · rw [if_neg (by simp [hl])]
    have := eq13 x0 x1 hl hwf.1.1 x0.length 0 (by omega)
    simpa using this
  · rw [if_pos (by simp; omega)]
    have : x0 ≠ x1 := fun h => hl (by rw [h])
    simp [this])

end Go.Proofs.Ytleifkpekoinlaa

/- Function 14 (laws.eqMotor): its runs between cut points. Written by a program of this repo (gen). -/
set_option linter.unusedVariables false
set_option linter.unusedSimpArgs false
set_option maxRecDepth 100000
namespace Go.Proofs.Ytleifkpekoinlaa
open Go Go.Am Go.Proofs
def ext14 : Ext := []
theorem ext14Ok : ExtOk Try.prog ext14 := trivial
/-! Function 14. -/
noncomputable def b14 : Code := bodyOf Try.f14
theorem hb14 : Try.f14.body = some b14 := by kernel_rfl
def sig14 : List AT := [AT.v (Ty.cons (Ty.int IntKind.i64) (Ty.cons (Ty.int IntKind.i64) (Ty.cons (Ty.int IntKind.i64) Ty.unit))), AT.v (Ty.cons (Ty.int IntKind.i64) (Ty.cons (Ty.int IntKind.i64) (Ty.cons (Ty.int IntKind.i64) Ty.unit)))]
def tys14 : List Ty := [Ty.bool]
def kds14 : List RK := []
def oks14 : List AT := owns sig14
def P14 (x0 : Int × Int × Int × Unit) (x1 : Int × Int × Int × Unit) : Prop := True
def g14_0 (x0 : Int × Int × Int × Unit) (x1 : Int × Int × Int × Unit) : Bool := (if (Prod.fst x0 != Prod.fst x1) = true then Bool.false else (if (Prod.fst (Prod.snd x0) != Prod.fst (Prod.snd x1)) = true then Bool.false else (if (Prod.fst (Prod.snd (Prod.snd x0)) != Prod.fst (Prod.snd (Prod.snd x1))) = true then Bool.false else Bool.true)))
theorem p14_0 (x0 : Int × Int × Int × Unit) (x1 : Int × Int × Int × Unit) : runF tab ext14 false 20 [] 2000 [] oks14 kds14 tys14 Try.f14.results [true] [.code b14] (entE 0 0 sig14 (x0, x1, ())) (entL sig14 (x0, x1, ())) = some ([Dyn.mk Ty.bool Bool.false], [], [(Prod.fst x0 != Prod.fst x1) = Bool.true]) := by kernel_rfl
theorem p14_1 (x0 : Int × Int × Int × Unit) (x1 : Int × Int × Int × Unit) : runF tab ext14 false 20 [] 2000 [] oks14 kds14 tys14 Try.f14.results [false, true] [.code b14] (entE 0 0 sig14 (x0, x1, ())) (entL sig14 (x0, x1, ())) = some ([Dyn.mk Ty.bool Bool.false], [], [(Prod.fst x0 != Prod.fst x1) = Bool.false, (Prod.fst (Prod.snd x0) != Prod.fst (Prod.snd x1)) = Bool.true]) := by kernel_rfl
theorem p14_2 (x0 : Int × Int × Int × Unit) (x1 : Int × Int × Int × Unit) : runF tab ext14 false 20 [] 2000 [] oks14 kds14 tys14 Try.f14.results [false, false, true] [.code b14] (entE 0 0 sig14 (x0, x1, ())) (entL sig14 (x0, x1, ())) = some ([Dyn.mk Ty.bool Bool.false], [], [(Prod.fst x0 != Prod.fst x1) = Bool.false, (Prod.fst (Prod.snd x0) != Prod.fst (Prod.snd x1)) = Bool.false, (Prod.fst (Prod.snd (Prod.snd x0)) != Prod.fst (Prod.snd (Prod.snd x1))) = Bool.true]) := by kernel_rfl
theorem p14_3 (x0 : Int × Int × Int × Unit) (x1 : Int × Int × Int × Unit) : runF tab ext14 false 20 [] 2000 [] oks14 kds14 tys14 Try.f14.results [false, false, false] [.code b14] (entE 0 0 sig14 (x0, x1, ())) (entL sig14 (x0, x1, ())) = some ([Dyn.mk Ty.bool Bool.true], [], [(Prod.fst x0 != Prod.fst x1) = Bool.false, (Prod.fst (Prod.snd x0) != Prod.fst (Prod.snd x1)) = Bool.false, (Prod.fst (Prod.snd (Prod.snd x0)) != Prod.fst (Prod.snd (Prod.snd x1))) = Bool.false]) := by kernel_rfl
theorem at14 (x0 : Int × Int × Int × Unit) (x1 : Int × Int × Int × Unit) (h : P14 x0 x1) (K : Ctx) (q : Nat → Value) : AtV Try.prog 14 (PostR kds14 oks14 [⟨Ty.bool, g14_0 x0 x1⟩] [] [] q K) 20 K q [] [.code b14] (entE 0 0 sig14 (x0, x1, ())) (entL sig14 (x0, x1, ())) := by
  unfold P14 at h
  unfold g14_0
  by_cases b0 : (Prod.fst x0 != Prod.fst x1) = true
  · try simp only [if_pos b0] at h ⊢
    exact AtV.fin Try.func14 tabOk ext14Ok mixed (p14_0 x0 x1) ⟨b0, trivial⟩
  · try simp only [if_neg b0] at h ⊢
    replace b0 := Bool.eq_false_iff.2 b0
    by_cases b1 : (Prod.fst (Prod.snd x0) != Prod.fst (Prod.snd x1)) = true
    · try simp only [if_pos b1] at h ⊢
      exact AtV.fin Try.func14 tabOk ext14Ok mixed (p14_1 x0 x1) ⟨b0, b1, trivial⟩
    · try simp only [if_neg b1] at h ⊢
      replace b1 := Bool.eq_false_iff.2 b1
      by_cases b2 : (Prod.fst (Prod.snd (Prod.snd x0)) != Prod.fst (Prod.snd (Prod.snd x1))) = true
      · try simp only [if_pos b2] at h ⊢
        exact AtV.fin Try.func14 tabOk ext14Ok mixed (p14_2 x0 x1) ⟨b0, b1, b2, trivial⟩
      · try simp only [if_neg b2] at h ⊢
        replace b2 := Bool.eq_false_iff.2 b2
        exact AtV.fin Try.func14 tabOk ext14Ok mixed (p14_3 x0 x1) ⟨b0, b1, b2, trivial⟩

def S14 : Am.Spec := { sig := sig14, pre := fun ⟨x0, x1, _⟩ => P14 x0 x1, res := fun ⟨x0, x1, _⟩ => [⟨Ty.bool, g14_0 x0 x1⟩], kds := kds14 }
theorem con14 : Contract Try.prog 14 S14 := contract_of Try.func14 hb14 (Nat.le_of_ble_eq_true (by kernel_rfl)) (fun ⟨x0, x1, _⟩ h _ K q => at14 x0 x1 h K q)


end Go.Proofs.Ytleifkpekoinlaa

/- Function 15 (laws.eqDoor): its runs between cut points. Written by a program of this repo (gen). -/
set_option linter.unusedVariables false
set_option linter.unusedSimpArgs false
set_option maxRecDepth 100000
namespace Go.Proofs.Ytleifkpekoinlaa
open Go Go.Am Go.Proofs
def ext15 : Ext := []
theorem ext15Ok : ExtOk Try.prog ext15 := trivial
/-! Function 15. -/
noncomputable def b15 : Code := bodyOf Try.f15
theorem hb15 : Try.f15.body = some b15 := by kernel_rfl
def sig15 : List AT := [AT.v (Ty.cons (Ty.int IntKind.i64) (Ty.cons (Ty.int IntKind.i64) (Ty.cons (Ty.int IntKind.i64) Ty.unit))), AT.v (Ty.cons (Ty.int IntKind.i64) (Ty.cons (Ty.int IntKind.i64) (Ty.cons (Ty.int IntKind.i64) Ty.unit)))]
def tys15 : List Ty := [Ty.bool]
def kds15 : List RK := []
def oks15 : List AT := owns sig15
def P15 (x0 : Int × Int × Int × Unit) (x1 : Int × Int × Int × Unit) : Prop := True
def g15_0 (x0 : Int × Int × Int × Unit) (x1 : Int × Int × Int × Unit) : Bool := (if (Prod.fst x0 != Prod.fst x1) = true then Bool.false else (if (Prod.fst (Prod.snd x0) != Prod.fst (Prod.snd x1)) = true then Bool.false else (if (Prod.fst (Prod.snd (Prod.snd x0)) != Prod.fst (Prod.snd (Prod.snd x1))) = true then Bool.false else Bool.true)))
theorem p15_0 (x0 : Int × Int × Int × Unit) (x1 : Int × Int × Int × Unit) : runF tab ext15 false 20 [] 2000 [] oks15 kds15 tys15 Try.f15.results [true] [.code b15] (entE 0 0 sig15 (x0, x1, ())) (entL sig15 (x0, x1, ())) = some ([Dyn.mk Ty.bool Bool.false], [], [(Prod.fst x0 != Prod.fst x1) = Bool.true]) := by kernel_rfl
theorem p15_1 (x0 : Int × Int × Int × Unit) (x1 : Int × Int × Int × Unit) : runF tab ext15 false 20 [] 2000 [] oks15 kds15 tys15 Try.f15.results [false, true] [.code b15] (entE 0 0 sig15 (x0, x1, ())) (entL sig15 (x0, x1, ())) = some ([Dyn.mk Ty.bool Bool.false], [], [(Prod.fst x0 != Prod.fst x1) = Bool.false, (Prod.fst (Prod.snd x0) != Prod.fst (Prod.snd x1)) = Bool.true]) := by kernel_rfl
theorem p15_2 (x0 : Int × Int × Int × Unit) (x1 : Int × Int × Int × Unit) : runF tab ext15 false 20 [] 2000 [] oks15 kds15 tys15 Try.f15.results [false, false, true] [.code b15] (entE 0 0 sig15 (x0, x1, ())) (entL sig15 (x0, x1, ())) = some ([Dyn.mk Ty.bool Bool.false], [], [(Prod.fst x0 != Prod.fst x1) = Bool.false, (Prod.fst (Prod.snd x0) != Prod.fst (Prod.snd x1)) = Bool.false, (Prod.fst (Prod.snd (Prod.snd x0)) != Prod.fst (Prod.snd (Prod.snd x1))) = Bool.true]) := by kernel_rfl
theorem p15_3 (x0 : Int × Int × Int × Unit) (x1 : Int × Int × Int × Unit) : runF tab ext15 false 20 [] 2000 [] oks15 kds15 tys15 Try.f15.results [false, false, false] [.code b15] (entE 0 0 sig15 (x0, x1, ())) (entL sig15 (x0, x1, ())) = some ([Dyn.mk Ty.bool Bool.true], [], [(Prod.fst x0 != Prod.fst x1) = Bool.false, (Prod.fst (Prod.snd x0) != Prod.fst (Prod.snd x1)) = Bool.false, (Prod.fst (Prod.snd (Prod.snd x0)) != Prod.fst (Prod.snd (Prod.snd x1))) = Bool.false]) := by kernel_rfl
theorem at15 (x0 : Int × Int × Int × Unit) (x1 : Int × Int × Int × Unit) (h : P15 x0 x1) (K : Ctx) (q : Nat → Value) : AtV Try.prog 15 (PostR kds15 oks15 [⟨Ty.bool, g15_0 x0 x1⟩] [] [] q K) 20 K q [] [.code b15] (entE 0 0 sig15 (x0, x1, ())) (entL sig15 (x0, x1, ())) := by
  unfold P15 at h
  unfold g15_0
  by_cases b0 : (Prod.fst x0 != Prod.fst x1) = true
  · try simp only [if_pos b0] at h ⊢
    exact AtV.fin Try.func15 tabOk ext15Ok mixed (p15_0 x0 x1) ⟨b0, trivial⟩
  · try simp only [if_neg b0] at h ⊢
    replace b0 := Bool.eq_false_iff.2 b0
    by_cases b1 : (Prod.fst (Prod.snd x0) != Prod.fst (Prod.snd x1)) = true
    · try simp only [if_pos b1] at h ⊢
      exact AtV.fin Try.func15 tabOk ext15Ok mixed (p15_1 x0 x1) ⟨b0, b1, trivial⟩
    · try simp only [if_neg b1] at h ⊢
      replace b1 := Bool.eq_false_iff.2 b1
      by_cases b2 : (Prod.fst (Prod.snd (Prod.snd x0)) != Prod.fst (Prod.snd (Prod.snd x1))) = true
      · try simp only [if_pos b2] at h ⊢
        exact AtV.fin Try.func15 tabOk ext15Ok mixed (p15_2 x0 x1) ⟨b0, b1, b2, trivial⟩
      · try simp only [if_neg b2] at h ⊢
        replace b2 := Bool.eq_false_iff.2 b2
        exact AtV.fin Try.func15 tabOk ext15Ok mixed (p15_3 x0 x1) ⟨b0, b1, b2, trivial⟩

def S15 : Am.Spec := { sig := sig15, pre := fun ⟨x0, x1, _⟩ => P15 x0 x1, res := fun ⟨x0, x1, _⟩ => [⟨Ty.bool, g15_0 x0 x1⟩], kds := kds15 }
theorem con15 : Contract Try.prog 15 S15 := contract_of Try.func15 hb15 (Nat.le_of_ble_eq_true (by kernel_rfl)) (fun ⟨x0, x1, _⟩ h _ K q => at15 x0 x1 h K q)


end Go.Proofs.Ytleifkpekoinlaa

/- Function 41 (laws.eqWorker): its runs between cut points. Written by a program of this repo (gen). -/
set_option linter.unusedVariables false
set_option linter.unusedSimpArgs false
set_option maxRecDepth 100000
namespace Go.Proofs.Ytleifkpekoinlaa
open Go Go.Am Go.Proofs
def ext41 : Ext := []
theorem ext41Ok : ExtOk Try.prog ext41 := trivial
/-! Function 41. -/
noncomputable def b41 : Code := bodyOf Try.f41
theorem hb41 : Try.f41.body = some b41 := by kernel_rfl
def sig41 : List AT := [AT.v (Ty.cons Ty.str (Ty.cons (Ty.int IntKind.i64) (Ty.cons (Ty.int IntKind.i64) Ty.unit))), AT.v (Ty.cons Ty.str (Ty.cons (Ty.int IntKind.i64) (Ty.cons (Ty.int IntKind.i64) Ty.unit)))]
def tys41 : List Ty := [Ty.bool]
def kds41 : List RK := []
def oks41 : List AT := owns sig41
def P41 (x0 : ByteArray × Int × Int × Unit) (x1 : ByteArray × Int × Int × Unit) : Prop := True
def g41_0 (x0 : ByteArray × Int × Int × Unit) (x1 : ByteArray × Int × Int × Unit) : Bool := (if (!ByteArray.toList (Prod.fst x0) == ByteArray.toList (Prod.fst x1)) = true then Bool.false else (if (Prod.fst (Prod.snd x0) != Prod.fst (Prod.snd x1)) = true then Bool.false else (if (Prod.fst (Prod.snd (Prod.snd x0)) != Prod.fst (Prod.snd (Prod.snd x1))) = true then Bool.false else Bool.true)))
theorem p41_0 (x0 : ByteArray × Int × Int × Unit) (x1 : ByteArray × Int × Int × Unit) : runF tab ext41 false 20 [] 2000 [] oks41 kds41 tys41 Try.f41.results [true] [.code b41] (entE 0 0 sig41 (x0, x1, ())) (entL sig41 (x0, x1, ())) = some ([Dyn.mk Ty.bool Bool.false], [], [(!ByteArray.toList (Prod.fst x0) == ByteArray.toList (Prod.fst x1)) = Bool.true]) := by kernel_rfl
theorem p41_1 (x0 : ByteArray × Int × Int × Unit) (x1 : ByteArray × Int × Int × Unit) : runF tab ext41 false 20 [] 2000 [] oks41 kds41 tys41 Try.f41.results [false, true] [.code b41] (entE 0 0 sig41 (x0, x1, ())) (entL sig41 (x0, x1, ())) = some ([Dyn.mk Ty.bool Bool.false], [], [(!ByteArray.toList (Prod.fst x0) == ByteArray.toList (Prod.fst x1)) = Bool.false, (Prod.fst (Prod.snd x0) != Prod.fst (Prod.snd x1)) = Bool.true]) := by kernel_rfl
theorem p41_2 (x0 : ByteArray × Int × Int × Unit) (x1 : ByteArray × Int × Int × Unit) : runF tab ext41 false 20 [] 2000 [] oks41 kds41 tys41 Try.f41.results [false, false, true] [.code b41] (entE 0 0 sig41 (x0, x1, ())) (entL sig41 (x0, x1, ())) = some ([Dyn.mk Ty.bool Bool.false], [], [(!ByteArray.toList (Prod.fst x0) == ByteArray.toList (Prod.fst x1)) = Bool.false, (Prod.fst (Prod.snd x0) != Prod.fst (Prod.snd x1)) = Bool.false, (Prod.fst (Prod.snd (Prod.snd x0)) != Prod.fst (Prod.snd (Prod.snd x1))) = Bool.true]) := by kernel_rfl
theorem p41_3 (x0 : ByteArray × Int × Int × Unit) (x1 : ByteArray × Int × Int × Unit) : runF tab ext41 false 20 [] 2000 [] oks41 kds41 tys41 Try.f41.results [false, false, false] [.code b41] (entE 0 0 sig41 (x0, x1, ())) (entL sig41 (x0, x1, ())) = some ([Dyn.mk Ty.bool Bool.true], [], [(!ByteArray.toList (Prod.fst x0) == ByteArray.toList (Prod.fst x1)) = Bool.false, (Prod.fst (Prod.snd x0) != Prod.fst (Prod.snd x1)) = Bool.false, (Prod.fst (Prod.snd (Prod.snd x0)) != Prod.fst (Prod.snd (Prod.snd x1))) = Bool.false]) := by kernel_rfl
theorem at41 (x0 : ByteArray × Int × Int × Unit) (x1 : ByteArray × Int × Int × Unit) (h : P41 x0 x1) (K : Ctx) (q : Nat → Value) : AtV Try.prog 41 (PostR kds41 oks41 [⟨Ty.bool, g41_0 x0 x1⟩] [] [] q K) 20 K q [] [.code b41] (entE 0 0 sig41 (x0, x1, ())) (entL sig41 (x0, x1, ())) := by
  unfold P41 at h
  unfold g41_0
  by_cases b0 : (!ByteArray.toList (Prod.fst x0) == ByteArray.toList (Prod.fst x1)) = true
  · try simp only [if_pos b0] at h ⊢
    exact AtV.fin Try.func41 tabOk ext41Ok mixed (p41_0 x0 x1) ⟨b0, trivial⟩
  · try simp only [if_neg b0] at h ⊢
    replace b0 := Bool.eq_false_iff.2 b0
    by_cases b1 : (Prod.fst (Prod.snd x0) != Prod.fst (Prod.snd x1)) = true
    · try simp only [if_pos b1] at h ⊢
      exact AtV.fin Try.func41 tabOk ext41Ok mixed (p41_1 x0 x1) ⟨b0, b1, trivial⟩
    · try simp only [if_neg b1] at h ⊢
      replace b1 := Bool.eq_false_iff.2 b1
      by_cases b2 : (Prod.fst (Prod.snd (Prod.snd x0)) != Prod.fst (Prod.snd (Prod.snd x1))) = true
      · try simp only [if_pos b2] at h ⊢
        exact AtV.fin Try.func41 tabOk ext41Ok mixed (p41_2 x0 x1) ⟨b0, b1, b2, trivial⟩
      · try simp only [if_neg b2] at h ⊢
        replace b2 := Bool.eq_false_iff.2 b2
        exact AtV.fin Try.func41 tabOk ext41Ok mixed (p41_3 x0 x1) ⟨b0, b1, b2, trivial⟩

def S41 : Am.Spec := { sig := sig41, pre := fun ⟨x0, x1, _⟩ => P41 x0 x1, res := fun ⟨x0, x1, _⟩ => [⟨Ty.bool, g41_0 x0 x1⟩], kds := kds41 }
theorem con41 : Contract Try.prog 41 S41 := contract_of Try.func41 hb41 (Nat.le_of_ble_eq_true (by kernel_rfl)) (fun ⟨x0, x1, _⟩ h _ K q => at41 x0 x1 h K q)


theorem eqd41 (x y : (ByteArray × Int × Int × Unit)) : g41_0 x y = true ↔ x = y := by
  obtain ⟨a, b, c, u⟩ := x
  obtain ⟨a', b', c', u'⟩ := y
  unfold g41_0
  simp only [Bool.not_eq_true', bytes_ne, bne_iff_ne, ne_eq, ite_not]
  by_cases h0 : a = a'
  · by_cases h1 : b = b'
    · by_cases h2 : c = c'
      · simp [h0, h1, h2]
      · simp [h0, h1, h2]
    · simp [h0, h1]
  · simp [h0]

end Go.Proofs.Ytleifkpekoinlaa

/- Function 16 (laws.eqWorkerS): its runs between cut points. Written by a program of this repo (gen). -/
set_option linter.unusedVariables false
set_option linter.unusedSimpArgs false
set_option maxRecDepth 100000
namespace Go.Proofs.Ytleifkpekoinlaa
open Go Go.Am Go.Proofs
def ext16 : Ext := [(41, S41)]
theorem call16_41 : Callable Try.prog 41 := ⟨Try.f41, Try.func41, by kernel_rfl, by kernel_rfl⟩
theorem ext16Ok : ExtOk Try.prog ext16 := ⟨⟨call16_41, con41⟩, trivial⟩
/-! Function 16. -/
noncomputable def b16 : Code := bodyOf Try.f16
theorem hb16 : Try.f16.body = some b16 := by kernel_rfl
def sig16 : List AT := [AT.v (Ty.sl (Ty.cons Ty.str (Ty.cons (Ty.int IntKind.i64) (Ty.cons (Ty.int IntKind.i64) Ty.unit)))), AT.v (Ty.sl (Ty.cons Ty.str (Ty.cons (Ty.int IntKind.i64) (Ty.cons (Ty.int IntKind.i64) Ty.unit))))]
def tys16 : List Ty := [Ty.bool]
def kds16 : List RK := []
def oks16 : List AT := owns sig16
def E16_4 (v5 : Int) (x0 : List (ByteArray × Int × Int × Unit)) (x1 : List (ByteArray × Int × Int × Unit)) : Env := [(0, PV.a (Atom.sl (Ty.cons Ty.str (Ty.cons (Ty.int IntKind.i64) (Ty.cons (Ty.int IntKind.i64) Ty.unit))) x0)), (1, PV.a (Atom.sl (Ty.cons Ty.str (Ty.cons (Ty.int IntKind.i64) (Ty.cons (Ty.int IntKind.i64) Ty.unit))) x1)), (5, PV.a (Atom.val (Value.int IntKind.i64 v5)))]
def L16_4 (v5 : Int) (x0 : List (ByteArray × Int × Int × Unit)) (x1 : List (ByteArray × Int × Int × Unit)) : Heap := []
mutual
def R16 : Nat → List (ByteArray × Int × Int × Unit) → List (ByteArray × Int × Int × Unit) → List Dyn → Prop
  | 0, _, _, _ => False
  | n + 1, x0, x1, ds => (if ((↑(List.length x0) : Int) != (↑(List.length x1) : Int)) = true then (ds = [Dyn.mk Ty.bool Bool.false]) else (R16_4 n (0) (x0) (x1) ds))
def R16_4 : Nat → Int → List (ByteArray × Int × Int × Unit) → List (ByteArray × Int × Int × Unit) → List Dyn → Prop
  | 0, _, _, _, _ => False
  | n + 1, v5, x0, x1, ds => (if (Decidable.decide (v5 < (↑(List.length x0) : Int))) = true then ((0 ≤ v5) ∧ (v5 < (↑(List.length x0) : Int)) ∧ ((0 ≤ v5) ∧ (v5 < (↑(List.length x1) : Int)) ∧ (if (!g41_0 (List.getD x0 (Int.toNat v5) (ByteArray.empty, 0, 0, ())) (List.getD x1 (Int.toNat v5) (ByteArray.empty, 0, 0, ()))) = true then (ds = [Dyn.mk Ty.bool Bool.false]) else ((InR IntKind.i64 (v5 + 1)) ∧ (R16_4 n (v5 + 1) (x0) (x1) ds))))) else (ds = [Dyn.mk Ty.bool Bool.true]))
end
theorem p16_0 (x0 : List (ByteArray × Int × Int × Unit)) (x1 : List (ByteArray × Int × Int × Unit)) : runF tab ext16 false 27 [] 2000 [] oks16 kds16 tys16 Try.f16.results [true] [.code b16] (entE 0 0 sig16 (x0, x1, ())) (entL sig16 (x0, x1, ())) = some ([Dyn.mk Ty.bool Bool.false], [], [((↑(List.length x0) : Int) != (↑(List.length x1) : Int)) = Bool.true]) := by kernel_rfl
theorem p16_1 (x0 : List (ByteArray × Int × Int × Unit)) (x1 : List (ByteArray × Int × Int × Unit)) : Am.runN tab ext16 false 27 [] 2000 [] [] [0, 1, 5] [] [false] [.code b16] (entE 0 0 sig16 (x0, x1, ())) (entL sig16 (x0, x1, ())) = some (cutAt b16 4, E16_4 (0) (x0) (x1), L16_4 (0) (x0) (x1), [((↑(List.length x0) : Int) != (↑(List.length x1) : Int)) = Bool.false]) := by kernel_rfl
theorem p16_2 (v5 : Int) (x0 : List (ByteArray × Int × Int × Unit)) (x1 : List (ByteArray × Int × Int × Unit)) : runF tab ext16 false 27 [] 2000 [] oks16 kds16 tys16 Try.f16.results [true, true] (cutAt b16 4) (E16_4 v5 x0 x1) (L16_4 v5 x0 x1) = some ([Dyn.mk Ty.bool Bool.false], [], [Decidable.decide (v5 < (↑(List.length x0) : Int)) = Bool.true, 0 ≤ v5, v5 < (↑(List.length x0) : Int), 0 ≤ v5, v5 < (↑(List.length x1) : Int), True, (!g41_0 (List.getD x0 (Int.toNat v5) (ByteArray.empty, 0, 0, ())) (List.getD x1 (Int.toNat v5) (ByteArray.empty, 0, 0, ()))) = Bool.true]) := by kernel_rfl
theorem p16_3 (v5 : Int) (x0 : List (ByteArray × Int × Int × Unit)) (x1 : List (ByteArray × Int × Int × Unit)) : Am.runN tab ext16 false 27 [] 2000 [] [] [0, 1, 5] [] [true, false] (cutAt b16 4) (E16_4 v5 x0 x1) (L16_4 v5 x0 x1) = some (cutAt b16 4, E16_4 (v5 + 1) (x0) (x1), L16_4 (v5 + 1) (x0) (x1), [Decidable.decide (v5 < (↑(List.length x0) : Int)) = Bool.true, 0 ≤ v5, v5 < (↑(List.length x0) : Int), 0 ≤ v5, v5 < (↑(List.length x1) : Int), True, (!g41_0 (List.getD x0 (Int.toNat v5) (ByteArray.empty, 0, 0, ())) (List.getD x1 (Int.toNat v5) (ByteArray.empty, 0, 0, ()))) = Bool.false, InR IntKind.i64 (v5 + 1)]) := by kernel_rfl
theorem p16_4 (v5 : Int) (x0 : List (ByteArray × Int × Int × Unit)) (x1 : List (ByteArray × Int × Int × Unit)) : runF tab ext16 false 27 [] 2000 [] oks16 kds16 tys16 Try.f16.results [false] (cutAt b16 4) (E16_4 v5 x0 x1) (L16_4 v5 x0 x1) = some ([Dyn.mk Ty.bool Bool.true], [], [Decidable.decide (v5 < (↑(List.length x0) : Int)) = Bool.false]) := by kernel_rfl
theorem snd16 : ∀ n, (∀ (x0 : List (ByteArray × Int × Int × Unit)) (x1 : List (ByteArray × Int × Int × Unit)) ds, R16 n x0 x1 ds → ∀ K q, AtV Try.prog 16 (PostR kds16 oks16 ds [] [] q K) 27 K q [] [.code b16] (entE 0 0 sig16 (x0, x1, ())) (entL sig16 (x0, x1, ()))) ∧ (∀ (v5 : Int) (x0 : List (ByteArray × Int × Int × Unit)) (x1 : List (ByteArray × Int × Int × Unit)) ds, R16_4 n v5 x0 x1 ds → ∀ K q, AtV Try.prog 16 (PostR kds16 oks16 ds [] [] q K) 27 K q [] (cutAt b16 4) (E16_4 v5 x0 x1) (L16_4 v5 x0 x1)) := by
  intro n
  induction n with
  | zero => exact ⟨fun _ _ _ h => by simp only [R16] at h, fun _ _ _ _ h => by simp only [R16_4] at h⟩
  | succ n ih =>
  obtain ⟨ih, ih4⟩ := ih
  refine ⟨?_, ?_⟩
  · intro x0 x1 ds h K q
    rw [R16] at h
    by_cases b0 : ((↑(List.length x0) : Int) != (↑(List.length x1) : Int)) = true
    · rw [if_pos b0] at h
      subst h
      exact AtV.fin Try.func16 tabOk ext16Ok mixed (p16_0 x0 x1) ⟨b0, trivial⟩
    · rw [if_neg b0] at h
      replace b0 := Bool.eq_false_iff.2 b0
      exact AtV.runN tabOk ext16Ok mixed (p16_1 x0 x1) ⟨b0, trivial⟩ (ih4 _ _ _ _ h K q)

  · intro v5 x0 x1 ds h K q
    rw [R16_4] at h
    by_cases b0 : (Decidable.decide (v5 < (↑(List.length x0) : Int))) = true
    · rw [if_pos b0] at h
      obtain ⟨s0, s1, h⟩ := h
      obtain ⟨s2, s3, h⟩ := h
      by_cases b1 : (!g41_0 (List.getD x0 (Int.toNat v5) (ByteArray.empty, 0, 0, ())) (List.getD x1 (Int.toNat v5) (ByteArray.empty, 0, 0, ()))) = true
      · rw [if_pos b1] at h
        subst h
        exact AtV.fin Try.func16 tabOk ext16Ok mixed (p16_2 v5 x0 x1) ⟨b0, s0, s1, s2, s3, trivial, b1, trivial⟩
      · rw [if_neg b1] at h
        replace b1 := Bool.eq_false_iff.2 b1
        obtain ⟨s4, h⟩ := h
        exact AtV.runN tabOk ext16Ok mixed (p16_3 v5 x0 x1) ⟨b0, s0, s1, s2, s3, trivial, b1, s4, trivial⟩ (ih4 _ _ _ _ h K q)
    · rw [if_neg b0] at h
      replace b0 := Bool.eq_false_iff.2 b0
      subst h
      exact AtV.fin Try.func16 tabOk ext16Ok mixed (p16_4 v5 x0 x1) ⟨b0, trivial⟩



theorem eq16 (x0 x1 : List (ByteArray × Int × Int × Unit)) (hl : x0.length = x1.length) (hm : x0.length ≤ maxLen) : ∀ k i : Nat, i + k = x0.length → R16_4 (k + 1) (i : Int) x0 x1 [⟨.bool, decide (x0.drop i = x1.drop i)⟩] := by
  intro k
  induction k with
  | zero =>
    intro i hi
    have h1 : ¬ (i : Int) < (x0.length : Int) := by omega
    rw [R16_4, if_neg (by simpa using h1), drop_end x0 i (by omega), drop_end x1 i (by omega)]
    simp
  | succ k ih =>
    intro i hi
    have h1 : (i : Int) < (x0.length : Int) := by omega
    rw [R16_4, if_pos (by simpa using h1)]
    refine ⟨by omega, h1, by omega, by omega, ?_⟩
    simp only [Int.toNat_natCast]
    rw [drop_get x0 i (ByteArray.empty, (0 : Int), (0 : Int), ()) (by omega), drop_get x1 i (ByteArray.empty, (0 : Int), (0 : Int), ()) (by omega)]
    by_cases he : x0.getD i (ByteArray.empty, (0 : Int), (0 : Int), ()) = x1.getD i (ByteArray.empty, (0 : Int), (0 : Int), ())
    · have hd := (eqd41 _ _).2 he
      rw [if_neg (by rw [hd]; simp)]
      refine ⟨inR_up hm (by omega), ?_⟩
      have := ih (i + 1) (by omega)
      simp only [he, List.cons.injEq, true_and]
      exact this
    · have hd : g41_0 (x0.getD i (ByteArray.empty, (0 : Int), (0 : Int), ())) (x1.getD i (ByteArray.empty, (0 : Int), (0 : Int), ())) = false :=
        Bool.eq_false_iff.2 fun h => he ((eqd41 _ _).1 h)
      rw [if_pos (by rw [hd]; rfl)]
      simp only [he, List.cons.injEq, false_and, decide_false]

def g16_0 (x0 x1 : List (ByteArray × Int × Int × Unit)) : Bool := decide (x0 = x1)
def P16 (x0 x1 : List (ByteArray × Int × Int × Unit)) : Prop := True
def S16 : Am.Spec := { sig := sig16, pre := fun ⟨x0, x1, _⟩ => P16 x0 x1, res := fun ⟨x0, x1, _⟩ => [⟨Ty.bool, g16_0 x0 x1⟩] }
theorem con16 : Contract Try.prog 16 S16 := contract_of Try.func16 hb16 (Nat.le_of_ble_eq_true (by kernel_rfl)) (fun ⟨x0, x1, _⟩ h hwf K q => by
  refine (snd16 (x0.length + 2)).1 x0 x1 _ ?_ K q
  show R16 (x0.length + 1 + 1) x0 x1 [⟨Ty.bool, decide (x0 = x1)⟩]
  rw [R16]
  by_cases hl : x0.length = x1.length
  · rw [if_neg (by simp [hl])]
    have := eq16 x0 x1 hl hwf.1.1 x0.length 0 (by omega)
    simpa using this
  · rw [if_pos (by simp; omega)]
    have : x0 ≠ x1 := fun h => hl (by rw [h])
    simp [this])

end Go.Proofs.Ytleifkpekoinlaa

/- Function 17 (laws.eqBasin): its runs between cut points. Written by a program of this repo (gen). -/
set_option linter.unusedVariables false
set_option linter.unusedSimpArgs false
set_option maxRecDepth 100000
namespace Go.Proofs.Ytleifkpekoinlaa
open Go Go.Am Go.Proofs
def ext17 : Ext := []
theorem ext17Ok : ExtOk Try.prog ext17 := trivial
/-! Function 17. -/
noncomputable def b17 : Code := bodyOf Try.f17
theorem hb17 : Try.f17.body = some b17 := by kernel_rfl
def sig17 : List AT := [AT.v (Ty.cons (Ty.int IntKind.i64) (Ty.cons (Ty.int IntKind.i64) (Ty.cons (Ty.int IntKind.i64) (Ty.cons (Ty.int IntKind.i64) Ty.unit)))), AT.v (Ty.cons (Ty.int IntKind.i64) (Ty.cons (Ty.int IntKind.i64) (Ty.cons (Ty.int IntKind.i64) (Ty.cons (Ty.int IntKind.i64) Ty.unit))))]
def tys17 : List Ty := [Ty.bool]
def kds17 : List RK := []
def oks17 : List AT := owns sig17
def P17 (x0 : Int × Int × Int × Int × Unit) (x1 : Int × Int × Int × Int × Unit) : Prop := True
def g17_0 (x0 : Int × Int × Int × Int × Unit) (x1 : Int × Int × Int × Int × Unit) : Bool := (if (Prod.fst x0 != Prod.fst x1) = true then Bool.false else (if (Prod.fst (Prod.snd x0) != Prod.fst (Prod.snd x1)) = true then Bool.false else (if (Prod.fst (Prod.snd (Prod.snd x0)) != Prod.fst (Prod.snd (Prod.snd x1))) = true then Bool.false else (if (Prod.fst (Prod.snd (Prod.snd (Prod.snd x0))) != Prod.fst (Prod.snd (Prod.snd (Prod.snd x1)))) = true then Bool.false else Bool.true))))
theorem p17_0 (x0 : Int × Int × Int × Int × Unit) (x1 : Int × Int × Int × Int × Unit) : runF tab ext17 false 25 [] 2000 [] oks17 kds17 tys17 Try.f17.results [true] [.code b17] (entE 0 0 sig17 (x0, x1, ())) (entL sig17 (x0, x1, ())) = some ([Dyn.mk Ty.bool Bool.false], [], [(Prod.fst x0 != Prod.fst x1) = Bool.true]) := by kernel_rfl
theorem p17_1 (x0 : Int × Int × Int × Int × Unit) (x1 : Int × Int × Int × Int × Unit) : runF tab ext17 false 25 [] 2000 [] oks17 kds17 tys17 Try.f17.results [false, true] [.code b17] (entE 0 0 sig17 (x0, x1, ())) (entL sig17 (x0, x1, ())) = some ([Dyn.mk Ty.bool Bool.false], [], [(Prod.fst x0 != Prod.fst x1) = Bool.false, (Prod.fst (Prod.snd x0) != Prod.fst (Prod.snd x1)) = Bool.true]) := by kernel_rfl
theorem p17_2 (x0 : Int × Int × Int × Int × Unit) (x1 : Int × Int × Int × Int × Unit) : runF tab ext17 false 25 [] 2000 [] oks17 kds17 tys17 Try.f17.results [false, false, true] [.code b17] (entE 0 0 sig17 (x0, x1, ())) (entL sig17 (x0, x1, ())) = some ([Dyn.mk Ty.bool Bool.false], [], [(Prod.fst x0 != Prod.fst x1) = Bool.false, (Prod.fst (Prod.snd x0) != Prod.fst (Prod.snd x1)) = Bool.false, (Prod.fst (Prod.snd (Prod.snd x0)) != Prod.fst (Prod.snd (Prod.snd x1))) = Bool.true]) := by kernel_rfl
theorem p17_3 (x0 : Int × Int × Int × Int × Unit) (x1 : Int × Int × Int × Int × Unit) : runF tab ext17 false 25 [] 2000 [] oks17 kds17 tys17 Try.f17.results [false, false, false, true] [.code b17] (entE 0 0 sig17 (x0, x1, ())) (entL sig17 (x0, x1, ())) = some ([Dyn.mk Ty.bool Bool.false], [], [(Prod.fst x0 != Prod.fst x1) = Bool.false, (Prod.fst (Prod.snd x0) != Prod.fst (Prod.snd x1)) = Bool.false, (Prod.fst (Prod.snd (Prod.snd x0)) != Prod.fst (Prod.snd (Prod.snd x1))) = Bool.false, (Prod.fst (Prod.snd (Prod.snd (Prod.snd x0))) != Prod.fst (Prod.snd (Prod.snd (Prod.snd x1)))) = Bool.true]) := by kernel_rfl
theorem p17_4 (x0 : Int × Int × Int × Int × Unit) (x1 : Int × Int × Int × Int × Unit) : runF tab ext17 false 25 [] 2000 [] oks17 kds17 tys17 Try.f17.results [false, false, false, false] [.code b17] (entE 0 0 sig17 (x0, x1, ())) (entL sig17 (x0, x1, ())) = some ([Dyn.mk Ty.bool Bool.true], [], [(Prod.fst x0 != Prod.fst x1) = Bool.false, (Prod.fst (Prod.snd x0) != Prod.fst (Prod.snd x1)) = Bool.false, (Prod.fst (Prod.snd (Prod.snd x0)) != Prod.fst (Prod.snd (Prod.snd x1))) = Bool.false, (Prod.fst (Prod.snd (Prod.snd (Prod.snd x0))) != Prod.fst (Prod.snd (Prod.snd (Prod.snd x1)))) = Bool.false]) := by kernel_rfl
theorem at17 (x0 : Int × Int × Int × Int × Unit) (x1 : Int × Int × Int × Int × Unit) (h : P17 x0 x1) (K : Ctx) (q : Nat → Value) : AtV Try.prog 17 (PostR kds17 oks17 [⟨Ty.bool, g17_0 x0 x1⟩] [] [] q K) 25 K q [] [.code b17] (entE 0 0 sig17 (x0, x1, ())) (entL sig17 (x0, x1, ())) := by
  unfold P17 at h
  unfold g17_0
  by_cases b0 : (Prod.fst x0 != Prod.fst x1) = true
  · try simp only [if_pos b0] at h ⊢
    exact AtV.fin Try.func17 tabOk ext17Ok mixed (p17_0 x0 x1) ⟨b0, trivial⟩
  · try simp only [if_neg b0] at h ⊢
    replace b0 := Bool.eq_false_iff.2 b0
    by_cases b1 : (Prod.fst (Prod.snd x0) != Prod.fst (Prod.snd x1)) = true
    · try simp only [if_pos b1] at h ⊢
      exact AtV.fin Try.func17 tabOk ext17Ok mixed (p17_1 x0 x1) ⟨b0, b1, trivial⟩
    · try simp only [if_neg b1] at h ⊢
      replace b1 := Bool.eq_false_iff.2 b1
      by_cases b2 : (Prod.fst (Prod.snd (Prod.snd x0)) != Prod.fst (Prod.snd (Prod.snd x1))) = true
      · try simp only [if_pos b2] at h ⊢
        exact AtV.fin Try.func17 tabOk ext17Ok mixed (p17_2 x0 x1) ⟨b0, b1, b2, trivial⟩
      · try simp only [if_neg b2] at h ⊢
        replace b2 := Bool.eq_false_iff.2 b2
        by_cases b3 : (Prod.fst (Prod.snd (Prod.snd (Prod.snd x0))) != Prod.fst (Prod.snd (Prod.snd (Prod.snd x1)))) = true
        · try simp only [if_pos b3] at h ⊢
          exact AtV.fin Try.func17 tabOk ext17Ok mixed (p17_3 x0 x1) ⟨b0, b1, b2, b3, trivial⟩
        · try simp only [if_neg b3] at h ⊢
          replace b3 := Bool.eq_false_iff.2 b3
          exact AtV.fin Try.func17 tabOk ext17Ok mixed (p17_4 x0 x1) ⟨b0, b1, b2, b3, trivial⟩

def S17 : Am.Spec := { sig := sig17, pre := fun ⟨x0, x1, _⟩ => P17 x0 x1, res := fun ⟨x0, x1, _⟩ => [⟨Ty.bool, g17_0 x0 x1⟩], kds := kds17 }
theorem con17 : Contract Try.prog 17 S17 := contract_of Try.func17 hb17 (Nat.le_of_ble_eq_true (by kernel_rfl)) (fun ⟨x0, x1, _⟩ h _ K q => at17 x0 x1 h K q)


end Go.Proofs.Ytleifkpekoinlaa

/- Function 42 (laws.eqFare): its runs between cut points. Written by a program of this repo (gen). -/
set_option linter.unusedVariables false
set_option linter.unusedSimpArgs false
set_option maxRecDepth 100000
namespace Go.Proofs.Ytleifkpekoinlaa
open Go Go.Am Go.Proofs
def ext42 : Ext := []
theorem ext42Ok : ExtOk Try.prog ext42 := trivial
/-! Function 42. -/
noncomputable def b42 : Code := bodyOf Try.f42
theorem hb42 : Try.f42.body = some b42 := by kernel_rfl
def sig42 : List AT := [AT.v (Ty.cons Ty.str (Ty.cons (Ty.int IntKind.i64) (Ty.cons (Ty.int IntKind.i64) (Ty.cons (Ty.int IntKind.i64) Ty.unit)))), AT.v (Ty.cons Ty.str (Ty.cons (Ty.int IntKind.i64) (Ty.cons (Ty.int IntKind.i64) (Ty.cons (Ty.int IntKind.i64) Ty.unit))))]
def tys42 : List Ty := [Ty.bool]
def kds42 : List RK := []
def oks42 : List AT := owns sig42
def P42 (x0 : ByteArray × Int × Int × Int × Unit) (x1 : ByteArray × Int × Int × Int × Unit) : Prop := True
def g42_0 (x0 : ByteArray × Int × Int × Int × Unit) (x1 : ByteArray × Int × Int × Int × Unit) : Bool := (if (!ByteArray.toList (Prod.fst x0) == ByteArray.toList (Prod.fst x1)) = true then Bool.false else (if (Prod.fst (Prod.snd x0) != Prod.fst (Prod.snd x1)) = true then Bool.false else (if (Prod.fst (Prod.snd (Prod.snd x0)) != Prod.fst (Prod.snd (Prod.snd x1))) = true then Bool.false else (if (Prod.fst (Prod.snd (Prod.snd (Prod.snd x0))) != Prod.fst (Prod.snd (Prod.snd (Prod.snd x1)))) = true then Bool.false else Bool.true))))
theorem p42_0 (x0 : ByteArray × Int × Int × Int × Unit) (x1 : ByteArray × Int × Int × Int × Unit) : runF tab ext42 false 25 [] 2000 [] oks42 kds42 tys42 Try.f42.results [true] [.code b42] (entE 0 0 sig42 (x0, x1, ())) (entL sig42 (x0, x1, ())) = some ([Dyn.mk Ty.bool Bool.false], [], [(!ByteArray.toList (Prod.fst x0) == ByteArray.toList (Prod.fst x1)) = Bool.true]) := by kernel_rfl
theorem p42_1 (x0 : ByteArray × Int × Int × Int × Unit) (x1 : ByteArray × Int × Int × Int × Unit) : runF tab ext42 false 25 [] 2000 [] oks42 kds42 tys42 Try.f42.results [false, true] [.code b42] (entE 0 0 sig42 (x0, x1, ())) (entL sig42 (x0, x1, ())) = some ([Dyn.mk Ty.bool Bool.false], [], [(!ByteArray.toList (Prod.fst x0) == ByteArray.toList (Prod.fst x1)) = Bool.false, (Prod.fst (Prod.snd x0) != Prod.fst (Prod.snd x1)) = Bool.true]) := by kernel_rfl
theorem p42_2 (x0 : ByteArray × Int × Int × Int × Unit) (x1 : ByteArray × Int × Int × Int × Unit) : runF tab ext42 false 25 [] 2000 [] oks42 kds42 tys42 Try.f42.results [false, false, true] [.code b42] (entE 0 0 sig42 (x0, x1, ())) (entL sig42 (x0, x1, ())) = some ([Dyn.mk Ty.bool Bool.false], [], [(!ByteArray.toList (Prod.fst x0) == ByteArray.toList (Prod.fst x1)) = Bool.false, (Prod.fst (Prod.snd x0) != Prod.fst (Prod.snd x1)) = Bool.false, (Prod.fst (Prod.snd (Prod.snd x0)) != Prod.fst (Prod.snd (Prod.snd x1))) = Bool.true]) := by kernel_rfl
theorem p42_3 (x0 : ByteArray × Int × Int × Int × Unit) (x1 : ByteArray × Int × Int × Int × Unit) : runF tab ext42 false 25 [] 2000 [] oks42 kds42 tys42 Try.f42.results [false, false, false, true] [.code b42] (entE 0 0 sig42 (x0, x1, ())) (entL sig42 (x0, x1, ())) = some ([Dyn.mk Ty.bool Bool.false], [], [(!ByteArray.toList (Prod.fst x0) == ByteArray.toList (Prod.fst x1)) = Bool.false, (Prod.fst (Prod.snd x0) != Prod.fst (Prod.snd x1)) = Bool.false, (Prod.fst (Prod.snd (Prod.snd x0)) != Prod.fst (Prod.snd (Prod.snd x1))) = Bool.false, (Prod.fst (Prod.snd (Prod.snd (Prod.snd x0))) != Prod.fst (Prod.snd (Prod.snd (Prod.snd x1)))) = Bool.true]) := by kernel_rfl
theorem p42_4 (x0 : ByteArray × Int × Int × Int × Unit) (x1 : ByteArray × Int × Int × Int × Unit) : runF tab ext42 false 25 [] 2000 [] oks42 kds42 tys42 Try.f42.results [false, false, false, false] [.code b42] (entE 0 0 sig42 (x0, x1, ())) (entL sig42 (x0, x1, ())) = some ([Dyn.mk Ty.bool Bool.true], [], [(!ByteArray.toList (Prod.fst x0) == ByteArray.toList (Prod.fst x1)) = Bool.false, (Prod.fst (Prod.snd x0) != Prod.fst (Prod.snd x1)) = Bool.false, (Prod.fst (Prod.snd (Prod.snd x0)) != Prod.fst (Prod.snd (Prod.snd x1))) = Bool.false, (Prod.fst (Prod.snd (Prod.snd (Prod.snd x0))) != Prod.fst (Prod.snd (Prod.snd (Prod.snd x1)))) = Bool.false]) := by kernel_rfl
theorem at42 (x0 : ByteArray × Int × Int × Int × Unit) (x1 : ByteArray × Int × Int × Int × Unit) (h : P42 x0 x1) (K : Ctx) (q : Nat → Value) : AtV Try.prog 42 (PostR kds42 oks42 [⟨Ty.bool, g42_0 x0 x1⟩] [] [] q K) 25 K q [] [.code b42] (entE 0 0 sig42 (x0, x1, ())) (entL sig42 (x0, x1, ())) := by
  unfold P42 at h
  unfold g42_0
  by_cases b0 : (!ByteArray.toList (Prod.fst x0) == ByteArray.toList (Prod.fst x1)) = true
  · try simp only [if_pos b0] at h ⊢
    exact AtV.fin Try.func42 tabOk ext42Ok mixed (p42_0 x0 x1) ⟨b0, trivial⟩
  · try simp only [if_neg b0] at h ⊢
    replace b0 := Bool.eq_false_iff.2 b0
    by_cases b1 : (Prod.fst (Prod.snd x0) != Prod.fst (Prod.snd x1)) = true
    · try simp only [if_pos b1] at h ⊢
      exact AtV.fin Try.func42 tabOk ext42Ok mixed (p42_1 x0 x1) ⟨b0, b1, trivial⟩
    · try simp only [if_neg b1] at h ⊢
      replace b1 := Bool.eq_false_iff.2 b1
      by_cases b2 : (Prod.fst (Prod.snd (Prod.snd x0)) != Prod.fst (Prod.snd (Prod.snd x1))) = true
      · try simp only [if_pos b2] at h ⊢
        exact AtV.fin Try.func42 tabOk ext42Ok mixed (p42_2 x0 x1) ⟨b0, b1, b2, trivial⟩
      · try simp only [if_neg b2] at h ⊢
        replace b2 := Bool.eq_false_iff.2 b2
        by_cases b3 : (Prod.fst (Prod.snd (Prod.snd (Prod.snd x0))) != Prod.fst (Prod.snd (Prod.snd (Prod.snd x1)))) = true
        · try simp only [if_pos b3] at h ⊢
          exact AtV.fin Try.func42 tabOk ext42Ok mixed (p42_3 x0 x1) ⟨b0, b1, b2, b3, trivial⟩
        · try simp only [if_neg b3] at h ⊢
          replace b3 := Bool.eq_false_iff.2 b3
          exact AtV.fin Try.func42 tabOk ext42Ok mixed (p42_4 x0 x1) ⟨b0, b1, b2, b3, trivial⟩

def S42 : Am.Spec := { sig := sig42, pre := fun ⟨x0, x1, _⟩ => P42 x0 x1, res := fun ⟨x0, x1, _⟩ => [⟨Ty.bool, g42_0 x0 x1⟩], kds := kds42 }
theorem con42 : Contract Try.prog 42 S42 := contract_of Try.func42 hb42 (Nat.le_of_ble_eq_true (by kernel_rfl)) (fun ⟨x0, x1, _⟩ h _ K q => at42 x0 x1 h K q)


theorem eqd42 (x y : (ByteArray × Int × Int × Int × Unit)) : g42_0 x y = true ↔ x = y := by
  obtain ⟨a, b, c, d, u⟩ := x
  obtain ⟨a', b', c', d', u'⟩ := y
  unfold g42_0
  simp only [Bool.not_eq_true', bytes_ne, bne_iff_ne, ne_eq, ite_not]
  by_cases h0 : a = a'
  · by_cases h1 : b = b'
    · by_cases h2 : c = c'
      · by_cases h3 : d = d'
        · simp [h0, h1, h2, h3]
        · simp [h0, h1, h2, h3]
      · simp [h0, h1, h2]
    · simp [h0, h1]
  · simp [h0]

end Go.Proofs.Ytleifkpekoinlaa

/- Function 18 (laws.eqFareS): its runs between cut points. Written by a program of this repo (gen). -/
set_option linter.unusedVariables false
set_option linter.unusedSimpArgs false
set_option maxRecDepth 100000
namespace Go.Proofs.Ytleifkpekoinlaa
open Go Go.Am Go.Proofs
def ext18 : Ext := [(42, S42)]
theorem call18_42 : Callable Try.prog 42 := ⟨Try.f42, Try.func42, by kernel_rfl, by kernel_rfl⟩
theorem ext18Ok : ExtOk Try.prog ext18 := ⟨⟨call18_42, con42⟩, trivial⟩
/-! Function 18. -/
noncomputable def b18 : Code := bodyOf Try.f18
theorem hb18 : Try.f18.body = some b18 := by kernel_rfl
def sig18 : List AT := [AT.v (Ty.sl (Ty.cons Ty.str (Ty.cons (Ty.int IntKind.i64) (Ty.cons (Ty.int IntKind.i64) (Ty.cons (Ty.int IntKind.i64) Ty.unit))))), AT.v (Ty.sl (Ty.cons Ty.str (Ty.cons (Ty.int IntKind.i64) (Ty.cons (Ty.int IntKind.i64) (Ty.cons (Ty.int IntKind.i64) Ty.unit)))))]
def tys18 : List Ty := [Ty.bool]
def kds18 : List RK := []
def oks18 : List AT := owns sig18
def E18_4 (v5 : Int) (x0 : List (ByteArray × Int × Int × Int × Unit)) (x1 : List (ByteArray × Int × Int × Int × Unit)) : Env := [(0, PV.a (Atom.sl (Ty.cons Ty.str (Ty.cons (Ty.int IntKind.i64) (Ty.cons (Ty.int IntKind.i64) (Ty.cons (Ty.int IntKind.i64) Ty.unit)))) x0)), (1, PV.a (Atom.sl (Ty.cons Ty.str (Ty.cons (Ty.int IntKind.i64) (Ty.cons (Ty.int IntKind.i64) (Ty.cons (Ty.int IntKind.i64) Ty.unit)))) x1)), (5, PV.a (Atom.val (Value.int IntKind.i64 v5)))]
def L18_4 (v5 : Int) (x0 : List (ByteArray × Int × Int × Int × Unit)) (x1 : List (ByteArray × Int × Int × Int × Unit)) : Heap := []
mutual
def R18 : Nat → List (ByteArray × Int × Int × Int × Unit) → List (ByteArray × Int × Int × Int × Unit) → List Dyn → Prop
  | 0, _, _, _ => False
  | n + 1, x0, x1, ds => (if ((↑(List.length x0) : Int) != (↑(List.length x1) : Int)) = true then (ds = [Dyn.mk Ty.bool Bool.false]) else (R18_4 n (0) (x0) (x1) ds))
def R18_4 : Nat → Int → List (ByteArray × Int × Int × Int × Unit) → List (ByteArray × Int × Int × Int × Unit) → List Dyn → Prop
  | 0, _, _, _, _ => False
  | n + 1, v5, x0, x1, ds => (if (Decidable.decide (v5 < (↑(List.length x0) : Int))) = true then ((0 ≤ v5) ∧ (v5 < (↑(List.length x0) : Int)) ∧ ((0 ≤ v5) ∧ (v5 < (↑(List.length x1) : Int)) ∧ (if (!g42_0 (List.getD x0 (Int.toNat v5) (ByteArray.empty, 0, 0, 0, ())) (List.getD x1 (Int.toNat v5) (ByteArray.empty, 0, 0, 0, ()))) = true then (ds = [Dyn.mk Ty.bool Bool.false]) else ((InR IntKind.i64 (v5 + 1)) ∧ (R18_4 n (v5 + 1) (x0) (x1) ds))))) else (ds = [Dyn.mk Ty.bool Bool.true]))
end
theorem p18_0 (x0 : List (ByteArray × Int × Int × Int × Unit)) (x1 : List (ByteArray × Int × Int × Int × Unit)) : runF tab ext18 false 27 [] 2000 [] oks18 kds18 tys18 Try.f18.results [true] [.code b18] (entE 0 0 sig18 (x0, x1, ())) (entL sig18 (x0, x1, ())) = some ([Dyn.mk Ty.bool Bool.false], [], [((↑(List.length x0) : Int) != (↑(List.length x1) : Int)) = Bool.true]) := by kernel_rfl
theorem p18_1 (x0 : List (ByteArray × Int × Int × Int × Unit)) (x1 : List (ByteArray × Int × Int × Int × Unit)) : Am.runN tab ext18 false 27 [] 2000 [] [] [0, 1, 5] [] [false] [.code b18] (entE 0 0 sig18 (x0, x1, ())) (entL sig18 (x0, x1, ())) = some (cutAt b18 4, E18_4 (0) (x0) (x1), L18_4 (0) (x0) (x1), [((↑(List.length x0) : Int) != (↑(List.length x1) : Int)) = Bool.false]) := by kernel_rfl
theorem p18_2 (v5 : Int) (x0 : List (ByteArray × Int × Int × Int × Unit)) (x1 : List (ByteArray × Int × Int × Int × Unit)) : runF tab ext18 false 27 [] 2000 [] oks18 kds18 tys18 Try.f18.results [true, true] (cutAt b18 4) (E18_4 v5 x0 x1) (L18_4 v5 x0 x1) = some ([Dyn.mk Ty.bool Bool.false], [], [Decidable.decide (v5 < (↑(List.length x0) : Int)) = Bool.true, 0 ≤ v5, v5 < (↑(List.length x0) : Int), 0 ≤ v5, v5 < (↑(List.length x1) : Int), True, (!g42_0 (List.getD x0 (Int.toNat v5) (ByteArray.empty, 0, 0, 0, ())) (List.getD x1 (Int.toNat v5) (ByteArray.empty, 0, 0, 0, ()))) = Bool.true]) := by kernel_rfl
theorem p18_3 (v5 : Int) (x0 : List (ByteArray × Int × Int × Int × Unit)) (x1 : List (ByteArray × Int × Int × Int × Unit)) : Am.runN tab ext18 false 27 [] 2000 [] [] [0, 1, 5] [] [true, false] (cutAt b18 4) (E18_4 v5 x0 x1) (L18_4 v5 x0 x1) = some (cutAt b18 4, E18_4 (v5 + 1) (x0) (x1), L18_4 (v5 + 1) (x0) (x1), [Decidable.decide (v5 < (↑(List.length x0) : Int)) = Bool.true, 0 ≤ v5, v5 < (↑(List.length x0) : Int), 0 ≤ v5, v5 < (↑(List.length x1) : Int), True, (!g42_0 (List.getD x0 (Int.toNat v5) (ByteArray.empty, 0, 0, 0, ())) (List.getD x1 (Int.toNat v5) (ByteArray.empty, 0, 0, 0, ()))) = Bool.false, InR IntKind.i64 (v5 + 1)]) := by kernel_rfl
theorem p18_4 (v5 : Int) (x0 : List (ByteArray × Int × Int × Int × Unit)) (x1 : List (ByteArray × Int × Int × Int × Unit)) : runF tab ext18 false 27 [] 2000 [] oks18 kds18 tys18 Try.f18.results [false] (cutAt b18 4) (E18_4 v5 x0 x1) (L18_4 v5 x0 x1) = some ([Dyn.mk Ty.bool Bool.true], [], [Decidable.decide (v5 < (↑(List.length x0) : Int)) = Bool.false]) := by kernel_rfl
theorem snd18 : ∀ n, (∀ (x0 : List (ByteArray × Int × Int × Int × Unit)) (x1 : List (ByteArray × Int × Int × Int × Unit)) ds, R18 n x0 x1 ds → ∀ K q, AtV Try.prog 18 (PostR kds18 oks18 ds [] [] q K) 27 K q [] [.code b18] (entE 0 0 sig18 (x0, x1, ())) (entL sig18 (x0, x1, ()))) ∧ (∀ (v5 : Int) (x0 : List (ByteArray × Int × Int × Int × Unit)) (x1 : List (ByteArray × Int × Int × Int × Unit)) ds, R18_4 n v5 x0 x1 ds → ∀ K q, AtV Try.prog 18 (PostR kds18 oks18 ds [] [] q K) 27 K q [] (cutAt b18 4) (E18_4 v5 x0 x1) (L18_4 v5 x0 x1)) := by
  intro n
  induction n with
  | zero => exact ⟨fun _ _ _ h => by simp only [R18] at h, fun _ _ _ _ h => by simp only [R18_4] at h⟩
  | succ n ih =>
  obtain ⟨ih, ih4⟩ := ih
  refine ⟨?_, ?_⟩
  · intro x0 x1 ds h K q
    rw [R18] at h
    by_cases b0 : ((↑(List.length x0) : Int) != (↑(List.length x1) : Int)) = true
    · rw [if_pos b0] at h
      subst h
      exact AtV.fin Try.func18 tabOk ext18Ok mixed (p18_0 x0 x1) ⟨b0, trivial⟩
    · rw [if_neg b0] at h
      replace b0 := Bool.eq_false_iff.2 b0
      exact AtV.runN tabOk ext18Ok mixed (p18_1 x0 x1) ⟨b0, trivial⟩ (ih4 _ _ _ _ h K q)

  · intro v5 x0 x1 ds h K q
    rw [R18_4] at h
    by_cases b0 : (Decidable.decide (v5 < (↑(List.length x0) : Int))) = true
    · rw [if_pos b0] at h
      obtain ⟨s0, s1, h⟩ := h
      obtain ⟨s2, s3, h⟩ := h
      by_cases b1 : (!g42_0 (List.getD x0 (Int.toNat v5) (ByteArray.empty, 0, 0, 0, ())) (List.getD x1 (Int.toNat v5) (ByteArray.empty, 0, 0, 0, ()))) = true
      · rw [if_pos b1] at h
        subst h
        exact AtV.fin Try.func18 tabOk ext18Ok mixed (p18_2 v5 x0 x1) ⟨b0, s0, s1, s2, s3, trivial, b1, trivial⟩
      · rw [if_neg b1] at h
        replace b1 := Bool.eq_false_iff.2 b1
        obtain ⟨s4, h⟩ := h
        exact AtV.runN tabOk ext18Ok mixed (p18_3 v5 x0 x1) ⟨b0, s0, s1, s2, s3, trivial, b1, s4, trivial⟩ (ih4 _ _ _ _ h K q)
    · rw [if_neg b0] at h
      replace b0 := Bool.eq_false_iff.2 b0
      subst h
      exact AtV.fin Try.func18 tabOk ext18Ok mixed (p18_4 v5 x0 x1) ⟨b0, trivial⟩



theorem eq18 (x0 x1 : List (ByteArray × Int × Int × Int × Unit)) (hl : x0.length = x1.length) (hm : x0.length ≤ maxLen) : ∀ k i : Nat, i + k = x0.length → R18_4 (k + 1) (i : Int) x0 x1 [⟨.bool, decide (x0.drop i = x1.drop i)⟩] := by
  intro k
  induction k with
  | zero =>
    intro i hi
    have h1 : ¬ (i : Int) < (x0.length : Int) := by omega
    rw [R18_4, if_neg (by simpa using h1), drop_end x0 i (by omega), drop_end x1 i (by omega)]
    simp
  | succ k ih =>
    intro i hi
    have h1 : (i : Int) < (x0.length : Int) := by omega
    rw [R18_4, if_pos (by simpa using h1)]
    refine ⟨by omega, h1, by omega, by omega, ?_⟩
    simp only [Int.toNat_natCast]
    rw [drop_get x0 i (ByteArray.empty, (0 : Int), (0 : Int), (0 : Int), ()) (by omega), drop_get x1 i (ByteArray.empty, (0 : Int), (0 : Int), (0 : Int), ()) (by omega)]
    by_cases he : x0.getD i (ByteArray.empty, (0 : Int), (0 : Int), (0 : Int), ()) = x1.getD i (ByteArray.empty, (0 : Int), (0 : Int), (0 : Int), ())
    · have hd := (eqd42 _ _).2 he
      rw [if_neg (by rw [hd]; simp)]
      refine ⟨inR_up hm (by omega), ?_⟩
      have := ih (i + 1) (by omega)
      simp only [he, List.cons.injEq, true_and]
      exact this
    · have hd : g42_0 (x0.getD i (ByteArray.empty, (0 : Int), (0 : Int), (0 : Int), ())) (x1.getD i (ByteArray.empty, (0 : Int), (0 : Int), (0 : Int), ())) = false :=
        Bool.eq_false_iff.2 fun h => he ((eqd42 _ _).1 h)
      rw [if_pos (by rw [hd]; rfl)]
      simp only [he, List.cons.injEq, false_and, decide_false]

def g18_0 (x0 x1 : List (ByteArray × Int × Int × Int × Unit)) : Bool := decide (x0 = x1)
def P18 (x0 x1 : List (ByteArray × Int × Int × Int × Unit)) : Prop := True
def S18 : Am.Spec := { sig := sig18, pre := fun ⟨x0, x1, _⟩ => P18 x0 x1, res := fun ⟨x0, x1, _⟩ => [⟨Ty.bool, g18_0 x0 x1⟩] }
theorem con18 : Contract Try.prog 18 S18 := contract_of Try.func18 hb18 (Nat.le_of_ble_eq_true (by kernel_rfl)) (fun ⟨x0, x1, _⟩ h hwf K q => by
  refine (snd18 (x0.length + 2)).1 x0 x1 _ ?_ K q
  show R18 (x0.length + 1 + 1) x0 x1 [⟨Ty.bool, decide (x0 = x1)⟩]
  rw [R18]
  by_cases hl : x0.length = x1.length
  · rw [if_neg (by simp [hl])]
    have := eq18 x0 x1 hl hwf.1.1 x0.length 0 (by omega)
    simpa using this
  · rw [if_pos (by simp; omega)]
    have : x0 ≠ x1 := fun h => hl (by rw [h])
    simp [this])

end Go.Proofs.Ytleifkpekoinlaa

/- Function 43 (laws.eqTest): its runs between cut points. Written by a program of this repo (gen). -/
set_option linter.unusedVariables false
set_option linter.unusedSimpArgs false
set_option maxRecDepth 100000
namespace Go.Proofs.Ytleifkpekoinlaa
open Go Go.Am Go.Proofs
def ext43 : Ext := []
theorem ext43Ok : ExtOk Try.prog ext43 := trivial
/-! Function 43. -/
noncomputable def b43 : Code := bodyOf Try.f43
theorem hb43 : Try.f43.body = some b43 := by kernel_rfl
def sig43 : List AT := [AT.v (Ty.cons (Ty.int IntKind.i64) (Ty.cons (Ty.int IntKind.i64) (Ty.cons (Ty.int IntKind.i64) Ty.unit))), AT.v (Ty.cons (Ty.int IntKind.i64) (Ty.cons (Ty.int IntKind.i64) (Ty.cons (Ty.int IntKind.i64) Ty.unit)))]
def tys43 : List Ty := [Ty.bool]
def kds43 : List RK := []
def oks43 : List AT := owns sig43
def P43 (x0 : Int × Int × Int × Unit) (x1 : Int × Int × Int × Unit) : Prop := True
def g43_0 (x0 : Int × Int × Int × Unit) (x1 : Int × Int × Int × Unit) : Bool := (if (Prod.fst x0 != Prod.fst x1) = true then Bool.false else (if (Prod.fst (Prod.snd x0) != Prod.fst (Prod.snd x1)) = true then Bool.false else (if (Prod.fst (Prod.snd (Prod.snd x0)) != Prod.fst (Prod.snd (Prod.snd x1))) = true then Bool.false else Bool.true)))
theorem p43_0 (x0 : Int × Int × Int × Unit) (x1 : Int × Int × Int × Unit) : runF tab ext43 false 20 [] 2000 [] oks43 kds43 tys43 Try.f43.results [true] [.code b43] (entE 0 0 sig43 (x0, x1, ())) (entL sig43 (x0, x1, ())) = some ([Dyn.mk Ty.bool Bool.false], [], [(Prod.fst x0 != Prod.fst x1) = Bool.true]) := by kernel_rfl
theorem p43_1 (x0 : Int × Int × Int × Unit) (x1 : Int × Int × Int × Unit) : runF tab ext43 false 20 [] 2000 [] oks43 kds43 tys43 Try.f43.results [false, true] [.code b43] (entE 0 0 sig43 (x0, x1, ())) (entL sig43 (x0, x1, ())) = some ([Dyn.mk Ty.bool Bool.false], [], [(Prod.fst x0 != Prod.fst x1) = Bool.false, (Prod.fst (Prod.snd x0) != Prod.fst (Prod.snd x1)) = Bool.true]) := by kernel_rfl
theorem p43_2 (x0 : Int × Int × Int × Unit) (x1 : Int × Int × Int × Unit) : runF tab ext43 false 20 [] 2000 [] oks43 kds43 tys43 Try.f43.results [false, false, true] [.code b43] (entE 0 0 sig43 (x0, x1, ())) (entL sig43 (x0, x1, ())) = some ([Dyn.mk Ty.bool Bool.false], [], [(Prod.fst x0 != Prod.fst x1) = Bool.false, (Prod.fst (Prod.snd x0) != Prod.fst (Prod.snd x1)) = Bool.false, (Prod.fst (Prod.snd (Prod.snd x0)) != Prod.fst (Prod.snd (Prod.snd x1))) = Bool.true]) := by kernel_rfl
theorem p43_3 (x0 : Int × Int × Int × Unit) (x1 : Int × Int × Int × Unit) : runF tab ext43 false 20 [] 2000 [] oks43 kds43 tys43 Try.f43.results [false, false, false] [.code b43] (entE 0 0 sig43 (x0, x1, ())) (entL sig43 (x0, x1, ())) = some ([Dyn.mk Ty.bool Bool.true], [], [(Prod.fst x0 != Prod.fst x1) = Bool.false, (Prod.fst (Prod.snd x0) != Prod.fst (Prod.snd x1)) = Bool.false, (Prod.fst (Prod.snd (Prod.snd x0)) != Prod.fst (Prod.snd (Prod.snd x1))) = Bool.false]) := by kernel_rfl
theorem at43 (x0 : Int × Int × Int × Unit) (x1 : Int × Int × Int × Unit) (h : P43 x0 x1) (K : Ctx) (q : Nat → Value) : AtV Try.prog 43 (PostR kds43 oks43 [⟨Ty.bool, g43_0 x0 x1⟩] [] [] q K) 20 K q [] [.code b43] (entE 0 0 sig43 (x0, x1, ())) (entL sig43 (x0, x1, ())) := by
  unfold P43 at h
  unfold g43_0
  by_cases b0 : (Prod.fst x0 != Prod.fst x1) = true
  · try simp only [if_pos b0] at h ⊢
    exact AtV.fin Try.func43 tabOk ext43Ok mixed (p43_0 x0 x1) ⟨b0, trivial⟩
  · try simp only [if_neg b0] at h ⊢
    replace b0 := Bool.eq_false_iff.2 b0
    by_cases b1 : (Prod.fst (Prod.snd x0) != Prod.fst (Prod.snd x1)) = true
    · try simp only [if_pos b1] at h ⊢
      exact AtV.fin Try.func43 tabOk ext43Ok mixed (p43_1 x0 x1) ⟨b0, b1, trivial⟩
    · try simp only [if_neg b1] at h ⊢
      replace b1 := Bool.eq_false_iff.2 b1
      by_cases b2 : (Prod.fst (Prod.snd (Prod.snd x0)) != Prod.fst (Prod.snd (Prod.snd x1))) = true
      · try simp only [if_pos b2] at h ⊢
        exact AtV.fin Try.func43 tabOk ext43Ok mixed (p43_2 x0 x1) ⟨b0, b1, b2, trivial⟩
      · try simp only [if_neg b2] at h ⊢
        replace b2 := Bool.eq_false_iff.2 b2
        exact AtV.fin Try.func43 tabOk ext43Ok mixed (p43_3 x0 x1) ⟨b0, b1, b2, trivial⟩

def S43 : Am.Spec := { sig := sig43, pre := fun ⟨x0, x1, _⟩ => P43 x0 x1, res := fun ⟨x0, x1, _⟩ => [⟨Ty.bool, g43_0 x0 x1⟩], kds := kds43 }
theorem con43 : Contract Try.prog 43 S43 := contract_of Try.func43 hb43 (Nat.le_of_ble_eq_true (by kernel_rfl)) (fun ⟨x0, x1, _⟩ h _ K q => at43 x0 x1 h K q)


theorem eqd43 (x y : (Int × Int × Int × Unit)) : g43_0 x y = true ↔ x = y := by
  obtain ⟨a, b, c, u⟩ := x
  obtain ⟨a', b', c', u'⟩ := y
  unfold g43_0
  simp only [Bool.not_eq_true', bytes_ne, bne_iff_ne, ne_eq, ite_not]
  by_cases h0 : a = a'
  · by_cases h1 : b = b'
    · by_cases h2 : c = c'
      · simp [h0, h1, h2]
      · simp [h0, h1, h2]
    · simp [h0, h1]
  · simp [h0]

end Go.Proofs.Ytleifkpekoinlaa

/- Function 19 (laws.eqTestS): its runs between cut points. Written by a program of this repo (gen). -/
set_option linter.unusedVariables false
set_option linter.unusedSimpArgs false
set_option maxRecDepth 100000
namespace Go.Proofs.Ytleifkpekoinlaa
open Go Go.Am Go.Proofs
def ext19 : Ext := [(43, S43)]
theorem call19_43 : Callable Try.prog 43 := ⟨Try.f43, Try.func43, by kernel_rfl, by kernel_rfl⟩
theorem ext19Ok : ExtOk Try.prog ext19 := ⟨⟨call19_43, con43⟩, trivial⟩
/-! Function 19. -/
noncomputable def b19 : Code := bodyOf Try.f19
theorem hb19 : Try.f19.body = some b19 := by kernel_rfl
def sig19 : List AT := [AT.v (Ty.sl (Ty.cons (Ty.int IntKind.i64) (Ty.cons (Ty.int IntKind.i64) (Ty.cons (Ty.int IntKind.i64) Ty.unit)))), AT.v (Ty.sl (Ty.cons (Ty.int IntKind.i64) (Ty.cons (Ty.int IntKind.i64) (Ty.cons (Ty.int IntKind.i64) Ty.unit))))]
def tys19 : List Ty := [Ty.bool]
def kds19 : List RK := []
def oks19 : List AT := owns sig19
def E19_4 (v5 : Int) (x0 : List (Int × Int × Int × Unit)) (x1 : List (Int × Int × Int × Unit)) : Env := [(0, PV.a (Atom.sl (Ty.cons (Ty.int IntKind.i64) (Ty.cons (Ty.int IntKind.i64) (Ty.cons (Ty.int IntKind.i64) Ty.unit))) x0)), (1, PV.a (Atom.sl (Ty.cons (Ty.int IntKind.i64) (Ty.cons (Ty.int IntKind.i64) (Ty.cons (Ty.int IntKind.i64) Ty.unit))) x1)), (5, PV.a (Atom.val (Value.int IntKind.i64 v5)))]
def L19_4 (v5 : Int) (x0 : List (Int × Int × Int × Unit)) (x1 : List (Int × Int × Int × Unit)) : Heap := []
mutual
def R19 : Nat → List (Int × Int × Int × Unit) → List (Int × Int × Int × Unit) → List Dyn → Prop
  | 0, _, _, _ => False
  | n + 1, x0, x1, ds => (if ((↑(List.length x0) : Int) != (↑(List.length x1) : Int)) = true then (ds = [Dyn.mk Ty.bool Bool.false]) else (R19_4 n (0) (x0) (x1) ds))
def R19_4 : Nat → Int → List (Int × Int × Int × Unit) → List (Int × Int × Int × Unit) → List Dyn → Prop
  | 0, _, _, _, _ => False
  | n + 1, v5, x0, x1, ds => (if (Decidable.decide (v5 < (↑(List.length x0) : Int))) = true then ((0 ≤ v5) ∧ (v5 < (↑(List.length x0) : Int)) ∧ ((0 ≤ v5) ∧ (v5 < (↑(List.length x1) : Int)) ∧ (if (!g43_0 (List.getD x0 (Int.toNat v5) (0, 0, 0, ())) (List.getD x1 (Int.toNat v5) (0, 0, 0, ()))) = true then (ds = [Dyn.mk Ty.bool Bool.false]) else ((InR IntKind.i64 (v5 + 1)) ∧ (R19_4 n (v5 + 1) (x0) (x1) ds))))) else (ds = [Dyn.mk Ty.bool Bool.true]))
end
theorem p19_0 (x0 : List (Int × Int × Int × Unit)) (x1 : List (Int × Int × Int × Unit)) : runF tab ext19 false 27 [] 2000 [] oks19 kds19 tys19 Try.f19.results [true] [.code b19] (entE 0 0 sig19 (x0, x1, ())) (entL sig19 (x0, x1, ())) = some ([Dyn.mk Ty.bool Bool.false], [], [((↑(List.length x0) : Int) != (↑(List.length x1) : Int)) = Bool.true]) := by kernel_rfl
theorem p19_1 (x0 : List (Int × Int × Int × Unit)) (x1 : List (Int × Int × Int × Unit)) : Am.runN tab ext19 false 27 [] 2000 [] [] [0, 1, 5] [] [false] [.code b19] (entE 0 0 sig19 (x0, x1, ())) (entL sig19 (x0, x1, ())) = some (cutAt b19 4, E19_4 (0) (x0) (x1), L19_4 (0) (x0) (x1), [((↑(List.length x0) : Int) != (↑(List.length x1) : Int)) = Bool.false]) := by kernel_rfl
theorem p19_2 (v5 : Int) (x0 : List (Int × Int × Int × Unit)) (x1 : List (Int × Int × Int × Unit)) : runF tab ext19 false 27 [] 2000 [] oks19 kds19 tys19 Try.f19.results [true, true] (cutAt b19 4) (E19_4 v5 x0 x1) (L19_4 v5 x0 x1) = some ([Dyn.mk Ty.bool Bool.false], [], [Decidable.decide (v5 < (↑(List.length x0) : Int)) = Bool.true, 0 ≤ v5, v5 < (↑(List.length x0) : Int), 0 ≤ v5, v5 < (↑(List.length x1) : Int), True, (!g43_0 (List.getD x0 (Int.toNat v5) (0, 0, 0, ())) (List.getD x1 (Int.toNat v5) (0, 0, 0, ()))) = Bool.true]) := by kernel_rfl
theorem p19_3 (v5 : Int) (x0 : List (Int × Int × Int × Unit)) (x1 : List (Int × Int × Int × Unit)) : Am.runN tab ext19 false 27 [] 2000 [] [] [0, 1, 5] [] [true, false] (cutAt b19 4) (E19_4 v5 x0 x1) (L19_4 v5 x0 x1) = some (cutAt b19 4, E19_4 (v5 + 1) (x0) (x1), L19_4 (v5 + 1) (x0) (x1), [Decidable.decide (v5 < (↑(List.length x0) : Int)) = Bool.true, 0 ≤ v5, v5 < (↑(List.length x0) : Int), 0 ≤ v5, v5 < (↑(List.length x1) : Int), True, (!g43_0 (List.getD x0 (Int.toNat v5) (0, 0, 0, ())) (List.getD x1 (Int.toNat v5) (0, 0, 0, ()))) = Bool.false, InR IntKind.i64 (v5 + 1)]) := by kernel_rfl
theorem p19_4 (v5 : Int) (x0 : List (Int × Int × Int × Unit)) (x1 : List (Int × Int × Int × Unit)) : runF tab ext19 false 27 [] 2000 [] oks19 kds19 tys19 Try.f19.results [false] (cutAt b19 4) (E19_4 v5 x0 x1) (L19_4 v5 x0 x1) = some ([Dyn.mk Ty.bool Bool.true], [], [Decidable.decide (v5 < (↑(List.length x0) : Int)) = Bool.false]) := by kernel_rfl
theorem snd19 : ∀ n, (∀ (x0 : List (Int × Int × Int × Unit)) (x1 : List (Int × Int × Int × Unit)) ds, R19 n x0 x1 ds → ∀ K q, AtV Try.prog 19 (PostR kds19 oks19 ds [] [] q K) 27 K q [] [.code b19] (entE 0 0 sig19 (x0, x1, ())) (entL sig19 (x0, x1, ()))) ∧ (∀ (v5 : Int) (x0 : List (Int × Int × Int × Unit)) (x1 : List (Int × Int × Int × Unit)) ds, R19_4 n v5 x0 x1 ds → ∀ K q, AtV Try.prog 19 (PostR kds19 oks19 ds [] [] q K) 27 K q [] (cutAt b19 4) (E19_4 v5 x0 x1) (L19_4 v5 x0 x1)) := by
  intro n
  induction n with
  | zero => exact ⟨fun _ _ _ h => by simp only [R19] at h, fun _ _ _ _ h => by simp only [R19_4] at h⟩
  | succ n ih =>
  obtain ⟨ih, ih4⟩ := ih
  refine ⟨?_, ?_⟩
  · intro x0 x1 ds h K q
    rw [R19] at h
    by_cases b0 : ((↑(List.length x0) : Int) != (↑(List.length x1) : Int)) = true
    · rw [if_pos b0] at h
      subst h
      exact AtV.fin Try.func19 tabOk ext19Ok mixed (p19_0 x0 x1) ⟨b0, trivial⟩
    · rw [if_neg b0] at h
      replace b0 := Bool.eq_false_iff.2 b0
      exact AtV.runN tabOk ext19Ok mixed (p19_1 x0 x1) ⟨b0, trivial⟩ (ih4 _ _ _ _ h K q)

  · intro v5 x0 x1 ds h K q
    rw [R19_4] at h
    by_cases b0 : (Decidable.decide (v5 < (↑(List.length x0) : Int))) = true
    · rw [if_pos b0] at h
      obtain ⟨s0, s1, h⟩ := h
      obtain ⟨s2, s3, h⟩ := h
      by_cases b1 : (!g43_0 (List.getD x0 (Int.toNat v5) (0, 0, 0, ())) (List.getD x1 (Int.toNat v5) (0, 0, 0, ()))) = true
      · rw [if_pos b1] at h
        subst h
        exact AtV.fin Try.func19 tabOk ext19Ok mixed (p19_2 v5 x0 x1) ⟨b0, s0, s1, s2, s3, trivial, b1, trivial⟩
      · rw [if_neg b1] at h
        replace b1 := Bool.eq_false_iff.2 b1
        obtain ⟨s4, h⟩ := h
        exact AtV.runN tabOk ext19Ok mixed (p19_3 v5 x0 x1) ⟨b0, s0, s1, s2, s3, trivial, b1, s4, trivial⟩ (ih4 _ _ _ _ h K q)
    · rw [if_neg b0] at h
      replace b0 := Bool.eq_false_iff.2 b0
      subst h
      exact AtV.fin Try.func19 tabOk ext19Ok mixed (p19_4 v5 x0 x1) ⟨b0, trivial⟩



theorem eq19 (x0 x1 : List (Int × Int × Int × Unit)) (hl : x0.length = x1.length) (hm : x0.length ≤ maxLen) : ∀ k i : Nat, i + k = x0.length → R19_4 (k + 1) (i : Int) x0 x1 [⟨.bool, decide (x0.drop i = x1.drop i)⟩] := by
  intro k
  induction k with
  | zero =>
    intro i hi
    have h1 : ¬ (i : Int) < (x0.length : Int) := by omega
    rw [R19_4, if_neg (by simpa using h1), drop_end x0 i (by omega), drop_end x1 i (by omega)]
    simp
  | succ k ih =>
    intro i hi
    have h1 : (i : Int) < (x0.length : Int) := by omega
    rw [R19_4, if_pos (by simpa using h1)]
    refine ⟨by omega, h1, by omega, by omega, ?_⟩
    simp only [Int.toNat_natCast]
    rw [drop_get x0 i ((0 : Int), (0 : Int), (0 : Int), ()) (by omega), drop_get x1 i ((0 : Int), (0 : Int), (0 : Int), ()) (by omega)]
    by_cases he : x0.getD i ((0 : Int), (0 : Int), (0 : Int), ()) = x1.getD i ((0 : Int), (0 : Int), (0 : Int), ())
    · have hd := (eqd43 _ _).2 he
      rw [if_neg (by rw [hd]; simp)]
      refine ⟨inR_up hm (by omega), ?_⟩
      have := ih (i + 1) (by omega)
      simp only [he, List.cons.injEq, true_and]
      exact this
    · have hd : g43_0 (x0.getD i ((0 : Int), (0 : Int), (0 : Int), ())) (x1.getD i ((0 : Int), (0 : Int), (0 : Int), ())) = false :=
        Bool.eq_false_iff.2 fun h => he ((eqd43 _ _).1 h)
      rw [if_pos (by rw [hd]; rfl)]
      simp only [he, List.cons.injEq, false_and, decide_false]

def g19_0 (x0 x1 : List (Int × Int × Int × Unit)) : Bool := decide (x0 = x1)
def P19 (x0 x1 : List (Int × Int × Int × Unit)) : Prop := True
def S19 : Am.Spec := { sig := sig19, pre := fun ⟨x0, x1, _⟩ => P19 x0 x1, res := fun ⟨x0, x1, _⟩ => [⟨Ty.bool, g19_0 x0 x1⟩] }
theorem con19 : Contract Try.prog 19 S19 := contract_of Try.func19 hb19 (Nat.le_of_ble_eq_true (by kernel_rfl)) (fun ⟨x0, x1, _⟩ h hwf K q => by
  refine (snd19 (x0.length + 2)).1 x0 x1 _ ?_ K q
  show R19 (x0.length + 1 + 1) x0 x1 [⟨Ty.bool, decide (x0 = x1)⟩]
  rw [R19]
  by_cases hl : x0.length = x1.length
  · rw [if_neg (by simp [hl])]
    have := eq19 x0 x1 hl hwf.1.1 x0.length 0 (by omega)
    simpa using this
  · rw [if_pos (by simp; omega)]
    have : x0 ≠ x1 := fun h => hl (by rw [h])
    simp [this])

end Go.Proofs.Ytleifkpekoinlaa

/- Function 44 (laws.eqHelper): its runs between cut points. Written by a program of this repo (gen). -/
set_option linter.unusedVariables false
set_option linter.unusedSimpArgs false
set_option maxRecDepth 100000
namespace Go.Proofs.Ytleifkpekoinlaa
open Go Go.Am Go.Proofs
def ext44 : Ext := []
theorem ext44Ok : ExtOk Try.prog ext44 := trivial
/-! Function 44. -/
noncomputable def b44 : Code := bodyOf Try.f44
theorem hb44 : Try.f44.body = some b44 := by kernel_rfl
def sig44 : List AT := [AT.v (Ty.cons Ty.str (Ty.cons (Ty.int IntKind.i64) (Ty.cons (Ty.int IntKind.i64) Ty.unit))), AT.v (Ty.cons Ty.str (Ty.cons (Ty.int IntKind.i64) (Ty.cons (Ty.int IntKind.i64) Ty.unit)))]
def tys44 : List Ty := [Ty.bool]
def kds44 : List RK := []
def oks44 : List AT := owns sig44
def P44 (x0 : ByteArray × Int × Int × Unit) (x1 : ByteArray × Int × Int × Unit) : Prop := True
def g44_0 (x0 : ByteArray × Int × Int × Unit) (x1 : ByteArray × Int × Int × Unit) : Bool := (if (!ByteArray.toList (Prod.fst x0) == ByteArray.toList (Prod.fst x1)) = true then Bool.false else (if (Prod.fst (Prod.snd x0) != Prod.fst (Prod.snd x1)) = true then Bool.false else (if (Prod.fst (Prod.snd (Prod.snd x0)) != Prod.fst (Prod.snd (Prod.snd x1))) = true then Bool.false else Bool.true)))
theorem p44_0 (x0 : ByteArray × Int × Int × Unit) (x1 : ByteArray × Int × Int × Unit) : runF tab ext44 false 20 [] 2000 [] oks44 kds44 tys44 Try.f44.results [true] [.code b44] (entE 0 0 sig44 (x0, x1, ())) (entL sig44 (x0, x1, ())) = some ([Dyn.mk Ty.bool Bool.false], [], [(!ByteArray.toList (Prod.fst x0) == ByteArray.toList (Prod.fst x1)) = Bool.true]) := by kernel_rfl
theorem p44_1 (x0 : ByteArray × Int × Int × Unit) (x1 : ByteArray × Int × Int × Unit) : runF tab ext44 false 20 [] 2000 [] oks44 kds44 tys44 Try.f44.results [false, true] [.code b44] (entE 0 0 sig44 (x0, x1, ())) (entL sig44 (x0, x1, ())) = some ([Dyn.mk Ty.bool Bool.false], [], [(!ByteArray.toList (Prod.fst x0) == ByteArray.toList (Prod.fst x1)) = Bool.false, (Prod.fst (Prod.snd x0) != Prod.fst (Prod.snd x1)) = Bool.true]) := by kernel_rfl
theorem p44_2 (x0 : ByteArray × Int × Int × Unit) (x1 : ByteArray × Int × Int × Unit) : runF tab ext44 false 20 [] 2000 [] oks44 kds44 tys44 Try.f44.results [false, false, true] [.code b44] (entE 0 0 sig44 (x0, x1, ())) (entL sig44 (x0, x1, ())) = some ([Dyn.mk Ty.bool Bool.false], [], [(!ByteArray.toList (Prod.fst x0) == ByteArray.toList (Prod.fst x1)) = Bool.false, (Prod.fst (Prod.snd x0) != Prod.fst (Prod.snd x1)) = Bool.false, (Prod.fst (Prod.snd (Prod.snd x0)) != Prod.fst (Prod.snd (Prod.snd x1))) = Bool.true]) := by kernel_rfl
theorem p44_3 (x0 : ByteArray × Int × Int × Unit) (x1 : ByteArray × Int × Int × Unit) : runF tab ext44 false 20 [] 2000 [] oks44 kds44 tys44 Try.f44.results [false, false, false] [.code b44] (entE 0 0 sig44 (x0, x1, ())) (entL sig44 (x0, x1, ())) = some ([Dyn.mk Ty.bool Bool.true], [], [(!ByteArray.toList (Prod.fst x0) == ByteArray.toList (Prod.fst x1)) = Bool.false, (Prod.fst (Prod.snd x0) != Prod.fst (Prod.snd x1)) = Bool.false, (Prod.fst (Prod.snd (Prod.snd x0)) != Prod.fst (Prod.snd (Prod.snd x1))) = Bool.false]) := by kernel_rfl
theorem at44 (x0 : ByteArray × Int × Int × Unit) (x1 : ByteArray × Int × Int × Unit) (h : P44 x0 x1) (K : Ctx) (q : Nat → Value) : AtV Try.prog 44 (PostR kds44 oks44 [⟨Ty.bool, g44_0 x0 x1⟩] [] [] q K) 20 K q [] [.code b44] (entE 0 0 sig44 (x0, x1, ())) (entL sig44 (x0, x1, ())) := by
  unfold P44 at h
  unfold g44_0
  by_cases b0 : (!ByteArray.toList (Prod.fst x0) == ByteArray.toList (Prod.fst x1)) = true
  · try simp only [if_pos b0] at h ⊢
    exact AtV.fin Try.func44 tabOk ext44Ok mixed (p44_0 x0 x1) ⟨b0, trivial⟩
  · try simp only [if_neg b0] at h ⊢
    replace b0 := Bool.eq_false_iff.2 b0
    by_cases b1 : (Prod.fst (Prod.snd x0) != Prod.fst (Prod.snd x1)) = true
    · try simp only [if_pos b1] at h ⊢
      exact AtV.fin Try.func44 tabOk ext44Ok mixed (p44_1 x0 x1) ⟨b0, b1, trivial⟩
    · try simp only [if_neg b1] at h ⊢
      replace b1 := Bool.eq_false_iff.2 b1
      by_cases b2 : (Prod.fst (Prod.snd (Prod.snd x0)) != Prod.fst (Prod.snd (Prod.snd x1))) = true
      · try simp only [if_pos b2] at h ⊢
        exact AtV.fin Try.func44 tabOk ext44Ok mixed (p44_2 x0 x1) ⟨b0, b1, b2, trivial⟩
      · try simp only [if_neg b2] at h ⊢
        replace b2 := Bool.eq_false_iff.2 b2
        exact AtV.fin Try.func44 tabOk ext44Ok mixed (p44_3 x0 x1) ⟨b0, b1, b2, trivial⟩

def S44 : Am.Spec := { sig := sig44, pre := fun ⟨x0, x1, _⟩ => P44 x0 x1, res := fun ⟨x0, x1, _⟩ => [⟨Ty.bool, g44_0 x0 x1⟩], kds := kds44 }
theorem con44 : Contract Try.prog 44 S44 := contract_of Try.func44 hb44 (Nat.le_of_ble_eq_true (by kernel_rfl)) (fun ⟨x0, x1, _⟩ h _ K q => at44 x0 x1 h K q)


theorem eqd44 (x y : (ByteArray × Int × Int × Unit)) : g44_0 x y = true ↔ x = y := by
  obtain ⟨a, b, c, u⟩ := x
  obtain ⟨a', b', c', u'⟩ := y
  unfold g44_0
  simp only [Bool.not_eq_true', bytes_ne, bne_iff_ne, ne_eq, ite_not]
  by_cases h0 : a = a'
  · by_cases h1 : b = b'
    · by_cases h2 : c = c'
      · simp [h0, h1, h2]
      · simp [h0, h1, h2]
    · simp [h0, h1]
  · simp [h0]

end Go.Proofs.Ytleifkpekoinlaa

/- Function 20 (laws.eqHelperS): its runs between cut points. Written by a program of this repo (gen). -/
set_option linter.unusedVariables false
set_option linter.unusedSimpArgs false
set_option maxRecDepth 100000
namespace Go.Proofs.Ytleifkpekoinlaa
open Go Go.Am Go.Proofs
def ext20 : Ext := [(44, S44)]
theorem call20_44 : Callable Try.prog 44 := ⟨Try.f44, Try.func44, by kernel_rfl, by kernel_rfl⟩
theorem ext20Ok : ExtOk Try.prog ext20 := ⟨⟨call20_44, con44⟩, trivial⟩
/-! Function 20. -/
noncomputable def b20 : Code := bodyOf Try.f20
theorem hb20 : Try.f20.body = some b20 := by kernel_rfl
def sig20 : List AT := [AT.v (Ty.sl (Ty.cons Ty.str (Ty.cons (Ty.int IntKind.i64) (Ty.cons (Ty.int IntKind.i64) Ty.unit)))), AT.v (Ty.sl (Ty.cons Ty.str (Ty.cons (Ty.int IntKind.i64) (Ty.cons (Ty.int IntKind.i64) Ty.unit))))]
def tys20 : List Ty := [Ty.bool]
def kds20 : List RK := []
def oks20 : List AT := owns sig20
def E20_4 (v5 : Int) (x0 : List (ByteArray × Int × Int × Unit)) (x1 : List (ByteArray × Int × Int × Unit)) : Env := [(0, PV.a (Atom.sl (Ty.cons Ty.str (Ty.cons (Ty.int IntKind.i64) (Ty.cons (Ty.int IntKind.i64) Ty.unit))) x0)), (1, PV.a (Atom.sl (Ty.cons Ty.str (Ty.cons (Ty.int IntKind.i64) (Ty.cons (Ty.int IntKind.i64) Ty.unit))) x1)), (5, PV.a (Atom.val (Value.int IntKind.i64 v5)))]
def L20_4 (v5 : Int) (x0 : List (ByteArray × Int × Int × Unit)) (x1 : List (ByteArray × Int × Int × Unit)) : Heap := []
mutual
def R20 : Nat → List (ByteArray × Int × Int × Unit) → List (ByteArray × Int × Int × Unit) → List Dyn → Prop
  | 0, _, _, _ => False
  | n + 1, x0, x1, ds => (if ((↑(List.length x0) : Int) != (↑(List.length x1) : Int)) = true then (ds = [Dyn.mk Ty.bool Bool.false]) else (R20_4 n (0) (x0) (x1) ds))
def R20_4 : Nat → Int → List (ByteArray × Int × Int × Unit) → List (ByteArray × Int × Int × Unit) → List Dyn → Prop
  | 0, _, _, _, _ => False
  | n + 1, v5, x0, x1, ds => (if (Decidable.decide (v5 < (↑(List.length x0) : Int))) = true then ((0 ≤ v5) ∧ (v5 < (↑(List.length x0) : Int)) ∧ ((0 ≤ v5) ∧ (v5 < (↑(List.length x1) : Int)) ∧ (if (!g44_0 (List.getD x0 (Int.toNat v5) (ByteArray.empty, 0, 0, ())) (List.getD x1 (Int.toNat v5) (ByteArray.empty, 0, 0, ()))) = true then (ds = [Dyn.mk Ty.bool Bool.false]) else ((InR IntKind.i64 (v5 + 1)) ∧ (R20_4 n (v5 + 1) (x0) (x1) ds))))) else (ds = [Dyn.mk Ty.bool Bool.true]))
end
theorem p20_0 (x0 : List (ByteArray × Int × Int × Unit)) (x1 : List (ByteArray × Int × Int × Unit)) : runF tab ext20 false 27 [] 2000 [] oks20 kds20 tys20 Try.f20.results [true] [.code b20] (entE 0 0 sig20 (x0, x1, ())) (entL sig20 (x0, x1, ())) = some ([Dyn.mk Ty.bool Bool.false], [], [((↑(List.length x0) : Int) != (↑(List.length x1) : Int)) = Bool.true]) := by kernel_rfl
theorem p20_1 (x0 : List (ByteArray × Int × Int × Unit)) (x1 : List (ByteArray × Int × Int × Unit)) : Am.runN tab ext20 false 27 [] 2000 [] [] [0, 1, 5] [] [false] [.code b20] (entE 0 0 sig20 (x0, x1, ())) (entL sig20 (x0, x1, ())) = some (cutAt b20 4, E20_4 (0) (x0) (x1), L20_4 (0) (x0) (x1), [((↑(List.length x0) : Int) != (↑(List.length x1) : Int)) = Bool.false]) := by kernel_rfl
theorem p20_2 (v5 : Int) (x0 : List (ByteArray × Int × Int × Unit)) (x1 : List (ByteArray × Int × Int × Unit)) : runF tab ext20 false 27 [] 2000 [] oks20 kds20 tys20 Try.f20.results [true, true] (cutAt b20 4) (E20_4 v5 x0 x1) (L20_4 v5 x0 x1) = some ([Dyn.mk Ty.bool Bool.false], [], [Decidable.decide (v5 < (↑(List.length x0) : Int)) = Bool.true, 0 ≤ v5, v5 < (↑(List.length x0) : Int), 0 ≤ v5, v5 < (↑(List.length x1) : Int), True, (!g44_0 (List.getD x0 (Int.toNat v5) (ByteArray.empty, 0, 0, ())) (List.getD x1 (Int.toNat v5) (ByteArray.empty, 0, 0, ()))) = Bool.true]) := by kernel_rfl
theorem p20_3 (v5 : Int) (x0 : List (ByteArray × Int × Int × Unit)) (x1 : List (ByteArray × Int × Int × Unit)) : Am.runN tab ext20 false 27 [] 2000 [] [] [0, 1, 5] [] [true, false] (cutAt b20 4) (E20_4 v5 x0 x1) (L20_4 v5 x0 x1) = some (cutAt b20 4, E20_4 (v5 + 1) (x0) (x1), L20_4 (v5 + 1) (x0) (x1), [Decidable.decide (v5 < (↑(List.length x0) : Int)) = Bool.true, 0 ≤ v5, v5 < (↑(List.length x0) : Int), 0 ≤ v5, v5 < (↑(List.length x1) : Int), True, (!g44_0 (List.getD x0 (Int.toNat v5) (ByteArray.empty, 0, 0, ())) (List.getD x1 (Int.toNat v5) (ByteArray.empty, 0, 0, ()))) = Bool.false, InR IntKind.i64 (v5 + 1)]) := by kernel_rfl
theorem p20_4 (v5 : Int) (x0 : List (ByteArray × Int × Int × Unit)) (x1 : List (ByteArray × Int × Int × Unit)) : runF tab ext20 false 27 [] 2000 [] oks20 kds20 tys20 Try.f20.results [false] (cutAt b20 4) (E20_4 v5 x0 x1) (L20_4 v5 x0 x1) = some ([Dyn.mk Ty.bool Bool.true], [], [Decidable.decide (v5 < (↑(List.length x0) : Int)) = Bool.false]) := by kernel_rfl
theorem snd20 : ∀ n, (∀ (x0 : List (ByteArray × Int × Int × Unit)) (x1 : List (ByteArray × Int × Int × Unit)) ds, R20 n x0 x1 ds → ∀ K q, AtV Try.prog 20 (PostR kds20 oks20 ds [] [] q K) 27 K q [] [.code b20] (entE 0 0 sig20 (x0, x1, ())) (entL sig20 (x0, x1, ()))) ∧ (∀ (v5 : Int) (x0 : List (ByteArray × Int × Int × Unit)) (x1 : List (ByteArray × Int × Int × Unit)) ds, R20_4 n v5 x0 x1 ds → ∀ K q, AtV Try.prog 20 (PostR kds20 oks20 ds [] [] q K) 27 K q [] (cutAt b20 4) (E20_4 v5 x0 x1) (L20_4 v5 x0 x1)) := by
  intro n
  induction n with
  | zero => exact ⟨fun _ _ _ h => by simp only [R20] at h, fun _ _ _ _ h => by simp only [R20_4] at h⟩
  | succ n ih =>
  obtain ⟨ih, ih4⟩ := ih
  refine ⟨?_, ?_⟩
  · intro x0 x1 ds h K q
    rw [R20] at h
    by_cases b0 : ((↑(List.length x0) : Int) != (↑(List.length x1) : Int)) = true
    · rw [if_pos b0] at h
      subst h
      exact AtV.fin Try.func20 tabOk ext20Ok mixed (p20_0 x0 x1) ⟨b0, trivial⟩
    · rw [if_neg b0] at h
      replace b0 := Bool.eq_false_iff.2 b0
      exact AtV.runN tabOk ext20Ok mixed (p20_1 x0 x1) ⟨b0, trivial⟩ (ih4 _ _ _ _ h K q)

  · intro v5 x0 x1 ds h K q
    rw [R20_4] at h
    by_cases b0 : (Decidable.decide (v5 < (↑(List.length x0) : Int))) = true
    · rw [if_pos b0] at h
      obtain ⟨s0, s1, h⟩ := h
      obtain ⟨s2, s3, h⟩ := h
      by_cases b1 : (!g44_0 (List.getD x0 (Int.toNat v5) (ByteArray.empty, 0, 0, ())) (List.getD x1 (Int.toNat v5) (ByteArray.empty, 0, 0, ()))) = true
      · rw [if_pos b1] at h
        subst h
        exact AtV.fin Try.func20 tabOk ext20Ok mixed (p20_2 v5 x0 x1) ⟨b0, s0, s1, s2, s3, trivial, b1, trivial⟩
      · rw [if_neg b1] at h
        replace b1 := Bool.eq_false_iff.2 b1
        obtain ⟨s4, h⟩ := h
        exact AtV.runN tabOk ext20Ok mixed (p20_3 v5 x0 x1) ⟨b0, s0, s1, s2, s3, trivial, b1, s4, trivial⟩ (ih4 _ _ _ _ h K q)
    · rw [if_neg b0] at h
      replace b0 := Bool.eq_false_iff.2 b0
      subst h
      exact AtV.fin Try.func20 tabOk ext20Ok mixed (p20_4 v5 x0 x1) ⟨b0, trivial⟩



theorem eq20 (x0 x1 : List (ByteArray × Int × Int × Unit)) (hl : x0.length = x1.length) (hm : x0.length ≤ maxLen) : ∀ k i : Nat, i + k = x0.length → R20_4 (k + 1) (i : Int) x0 x1 [⟨.bool, decide (x0.drop i = x1.drop i)⟩] := by
  intro k
  induction k with
  | zero =>
    intro i hi
    have h1 : ¬ (i : Int) < (x0.length : Int) := by omega
    rw [R20_4, if_neg (by simpa using h1), drop_end x0 i (by omega), drop_end x1 i (by omega)]
    simp
  | succ k ih =>
    intro i hi
    have h1 : (i : Int) < (x0.length : Int) := by omega
    rw [R20_4, if_pos (by simpa using h1)]
    refine ⟨by omega, h1, by omega, by omega, ?_⟩
    simp only [Int.toNat_natCast]
    rw [drop_get x0 i (ByteArray.empty, (0 : Int), (0 : Int), ()) (by omega), drop_get x1 i (ByteArray.empty, (0 : Int), (0 : Int), ()) (by omega)]
    by_cases he : x0.getD i (ByteArray.empty, (0 : Int), (0 : Int), ()) = x1.getD i (ByteArray.empty, (0 : Int), (0 : Int), ())
    · have hd := (eqd44 _ _).2 he
      rw [if_neg (by rw [hd]; simp)]
      refine ⟨inR_up hm (by omega), ?_⟩
      have := ih (i + 1) (by omega)
      simp only [he, List.cons.injEq, true_and]
      exact this
    · have hd : g44_0 (x0.getD i (ByteArray.empty, (0 : Int), (0 : Int), ())) (x1.getD i (ByteArray.empty, (0 : Int), (0 : Int), ())) = false :=
        Bool.eq_false_iff.2 fun h => he ((eqd44 _ _).1 h)
      rw [if_pos (by rw [hd]; rfl)]
      simp only [he, List.cons.injEq, false_and, decide_false]

def g20_0 (x0 x1 : List (ByteArray × Int × Int × Unit)) : Bool := decide (x0 = x1)
def P20 (x0 x1 : List (ByteArray × Int × Int × Unit)) : Prop := True
def S20 : Am.Spec := { sig := sig20, pre := fun ⟨x0, x1, _⟩ => P20 x0 x1, res := fun ⟨x0, x1, _⟩ => [⟨Ty.bool, g20_0 x0 x1⟩] }
theorem con20 : Contract Try.prog 20 S20 := contract_of Try.func20 hb20 (Nat.le_of_ble_eq_true (by kernel_rfl)) (fun ⟨x0, x1, _⟩ h hwf K q => by
  refine (snd20 (x0.length + 2)).1 x0 x1 _ ?_ K q
  show R20 (x0.length + 1 + 1) x0 x1 [⟨Ty.bool, decide (x0 = x1)⟩]
  rw [R20]
  by_cases hl : x0.length = x1.length
  · rw [if_neg (by simp [hl])]
    have := eq20 x0 x1 hl hwf.1.1 x0.length 0 (by omega)
    simpa using this
  · rw [if_pos (by simp; omega)]
    have : x0 ≠ x1 := fun h => hl (by rw [h])
    simp [this])

end Go.Proofs.Ytleifkpekoinlaa

/- Function 45 (laws.eqTask): its runs between cut points. Written by a program of this repo (gen). -/
set_option linter.unusedVariables false
set_option linter.unusedSimpArgs false
set_option maxRecDepth 100000
namespace Go.Proofs.Ytleifkpekoinlaa
open Go Go.Am Go.Proofs
def ext45 : Ext := []
theorem ext45Ok : ExtOk Try.prog ext45 := trivial
/-! Function 45. -/
noncomputable def b45 : Code := bodyOf Try.f45
theorem hb45 : Try.f45.body = some b45 := by kernel_rfl
def sig45 : List AT := [AT.v (Ty.cons Ty.str (Ty.cons (Ty.int IntKind.i64) (Ty.cons (Ty.int IntKind.i64) Ty.unit))), AT.v (Ty.cons Ty.str (Ty.cons (Ty.int IntKind.i64) (Ty.cons (Ty.int IntKind.i64) Ty.unit)))]
def tys45 : List Ty := [Ty.bool]
def kds45 : List RK := []
def oks45 : List AT := owns sig45
def P45 (x0 : ByteArray × Int × Int × Unit) (x1 : ByteArray × Int × Int × Unit) : Prop := True
def g45_0 (x0 : ByteArray × Int × Int × Unit) (x1 : ByteArray × Int × Int × Unit) : Bool := (if (!ByteArray.toList (Prod.fst x0) == ByteArray.toList (Prod.fst x1)) = true then Bool.false else (if (Prod.fst (Prod.snd x0) != Prod.fst (Prod.snd x1)) = true then Bool.false else (if (Prod.fst (Prod.snd (Prod.snd x0)) != Prod.fst (Prod.snd (Prod.snd x1))) = true then Bool.false else Bool.true)))
theorem p45_0 (x0 : ByteArray × Int × Int × Unit) (x1 : ByteArray × Int × Int × Unit) : runF tab ext45 false 20 [] 2000 [] oks45 kds45 tys45 Try.f45.results [true] [.code b45] (entE 0 0 sig45 (x0, x1, ())) (entL sig45 (x0, x1, ())) = some ([Dyn.mk Ty.bool Bool.false], [], [(!ByteArray.toList (Prod.fst x0) == ByteArray.toList (Prod.fst x1)) = Bool.true]) := by kernel_rfl
theorem p45_1 (x0 : ByteArray × Int × Int × Unit) (x1 : ByteArray × Int × Int × Unit) : runF tab ext45 false 20 [] 2000 [] oks45 kds45 tys45 Try.f45.results [false, true] [.code b45] (entE 0 0 sig45 (x0, x1, ())) (entL sig45 (x0, x1, ())) = some ([Dyn.mk Ty.bool Bool.false], [], [(!ByteArray.toList (Prod.fst x0) == ByteArray.toList (Prod.fst x1)) = Bool.false, (Prod.fst (Prod.snd x0) != Prod.fst (Prod.snd x1)) = Bool.true]) := by kernel_rfl
theorem p45_2 (x0 : ByteArray × Int × Int × Unit) (x1 : ByteArray × Int × Int × Unit) : runF tab ext45 false 20 [] 2000 [] oks45 kds45 tys45 Try.f45.results [false, false, true] [.code b45] (entE 0 0 sig45 (x0, x1, ())) (entL sig45 (x0, x1, ())) = some ([Dyn.mk Ty.bool Bool.false], [], [(!ByteArray.toList (Prod.fst x0) == ByteArray.toList (Prod.fst x1)) = Bool.false, (Prod.fst (Prod.snd x0) != Prod.fst (Prod.snd x1)) = Bool.false, (Prod.fst (Prod.snd (Prod.snd x0)) != Prod.fst (Prod.snd (Prod.snd x1))) = Bool.true]) := by kernel_rfl
theorem p45_3 (x0 : ByteArray × Int × Int × Unit) (x1 : ByteArray × Int × Int × Unit) : runF tab ext45 false 20 [] 2000 [] oks45 kds45 tys45 Try.f45.results [false, false, false] [.code b45] (entE 0 0 sig45 (x0, x1, ())) (entL sig45 (x0, x1, ())) = some ([Dyn.mk Ty.bool Bool.true], [], [(!ByteArray.toList (Prod.fst x0) == ByteArray.toList (Prod.fst x1)) = Bool.false, (Prod.fst (Prod.snd x0) != Prod.fst (Prod.snd x1)) = Bool.false, (Prod.fst (Prod.snd (Prod.snd x0)) != Prod.fst (Prod.snd (Prod.snd x1))) = Bool.false]) := by kernel_rfl
theorem at45 (x0 : ByteArray × Int × Int × Unit) (x1 : ByteArray × Int × Int × Unit) (h : P45 x0 x1) (K : Ctx) (q : Nat → Value) : AtV Try.prog 45 (PostR kds45 oks45 [⟨Ty.bool, g45_0 x0 x1⟩] [] [] q K) 20 K q [] [.code b45] (entE 0 0 sig45 (x0, x1, ())) (entL sig45 (x0, x1, ())) := by
  unfold P45 at h
  unfold g45_0
  by_cases b0 : (!ByteArray.toList (Prod.fst x0) == ByteArray.toList (Prod.fst x1)) = true
  · try simp only [if_pos b0] at h ⊢
    exact AtV.fin Try.func45 tabOk ext45Ok mixed (p45_0 x0 x1) ⟨b0, trivial⟩
  · try simp only [if_neg b0] at h ⊢
    replace b0 := Bool.eq_false_iff.2 b0
    by_cases b1 : (Prod.fst (Prod.snd x0) != Prod.fst (Prod.snd x1)) = true
    · try simp only [if_pos b1] at h ⊢
      exact AtV.fin Try.func45 tabOk ext45Ok mixed (p45_1 x0 x1) ⟨b0, b1, trivial⟩
    · try simp only [if_neg b1] at h ⊢
      replace b1 := Bool.eq_false_iff.2 b1
      by_cases b2 : (Prod.fst (Prod.snd (Prod.snd x0)) != Prod.fst (Prod.snd (Prod.snd x1))) = true
      · try simp only [if_pos b2] at h ⊢
        exact AtV.fin Try.func45 tabOk ext45Ok mixed (p45_2 x0 x1) ⟨b0, b1, b2, trivial⟩
      · try simp only [if_neg b2] at h ⊢
        replace b2 := Bool.eq_false_iff.2 b2
        exact AtV.fin Try.func45 tabOk ext45Ok mixed (p45_3 x0 x1) ⟨b0, b1, b2, trivial⟩

def S45 : Am.Spec := { sig := sig45, pre := fun ⟨x0, x1, _⟩ => P45 x0 x1, res := fun ⟨x0, x1, _⟩ => [⟨Ty.bool, g45_0 x0 x1⟩], kds := kds45 }
theorem con45 : Contract Try.prog 45 S45 := contract_of Try.func45 hb45 (Nat.le_of_ble_eq_true (by kernel_rfl)) (fun ⟨x0, x1, _⟩ h _ K q => at45 x0 x1 h K q)


theorem eqd45 (x y : (ByteArray × Int × Int × Unit)) : g45_0 x y = true ↔ x = y := by
  obtain ⟨a, b, c, u⟩ := x
  obtain ⟨a', b', c', u'⟩ := y
  unfold g45_0
  simp only [Bool.not_eq_true', bytes_ne, bne_iff_ne, ne_eq, ite_not]
  by_cases h0 : a = a'
  · by_cases h1 : b = b'
    · by_cases h2 : c = c'
      · simp [h0, h1, h2]
      · simp [h0, h1, h2]
    · simp [h0, h1]
  · simp [h0]

end Go.Proofs.Ytleifkpekoinlaa

/- Function 21 (laws.eqTaskS): its runs between cut points. Written by a program of this repo (gen). -/
set_option linter.unusedVariables false
set_option linter.unusedSimpArgs false
set_option maxRecDepth 100000
namespace Go.Proofs.Ytleifkpekoinlaa
open Go Go.Am Go.Proofs
def ext21 : Ext := [(45, S45)]
theorem call21_45 : Callable Try.prog 45 := ⟨Try.f45, Try.func45, by kernel_rfl, by kernel_rfl⟩
theorem ext21Ok : ExtOk Try.prog ext21 := ⟨⟨call21_45, con45⟩, trivial⟩
/-! Function 21. -/
noncomputable def b21 : Code := bodyOf Try.f21
theorem hb21 : Try.f21.body = some b21 := by kernel_rfl
def sig21 : List AT := [AT.v (Ty.sl (Ty.cons Ty.str (Ty.cons (Ty.int IntKind.i64) (Ty.cons (Ty.int IntKind.i64) Ty.unit)))), AT.v (Ty.sl (Ty.cons Ty.str (Ty.cons (Ty.int IntKind.i64) (Ty.cons (Ty.int IntKind.i64) Ty.unit))))]
def tys21 : List Ty := [Ty.bool]
def kds21 : List RK := []
def oks21 : List AT := owns sig21
def E21_4 (v5 : Int) (x0 : List (ByteArray × Int × Int × Unit)) (x1 : List (ByteArray × Int × Int × Unit)) : Env := [(0, PV.a (Atom.sl (Ty.cons Ty.str (Ty.cons (Ty.int IntKind.i64) (Ty.cons (Ty.int IntKind.i64) Ty.unit))) x0)), (1, PV.a (Atom.sl (Ty.cons Ty.str (Ty.cons (Ty.int IntKind.i64) (Ty.cons (Ty.int IntKind.i64) Ty.unit))) x1)), (5, PV.a (Atom.val (Value.int IntKind.i64 v5)))]
def L21_4 (v5 : Int) (x0 : List (ByteArray × Int × Int × Unit)) (x1 : List (ByteArray × Int × Int × Unit)) : Heap := []
mutual
def R21 : Nat → List (ByteArray × Int × Int × Unit) → List (ByteArray × Int × Int × Unit) → List Dyn → Prop
  | 0, _, _, _ => False
  | n + 1, x0, x1, ds => (if ((↑(List.length x0) : Int) != (↑(List.length x1) : Int)) = true then (ds = [Dyn.mk Ty.bool Bool.false]) else (R21_4 n (0) (x0) (x1) ds))
def R21_4 : Nat → Int → List (ByteArray × Int × Int × Unit) → List (ByteArray × Int × Int × Unit) → List Dyn → Prop
  | 0, _, _, _, _ => False
  | n + 1, v5, x0, x1, ds => (if (Decidable.decide (v5 < (↑(List.length x0) : Int))) = true then ((0 ≤ v5) ∧ (v5 < (↑(List.length x0) : Int)) ∧ ((0 ≤ v5) ∧ (v5 < (↑(List.length x1) : Int)) ∧ (if (!g45_0 (List.getD x0 (Int.toNat v5) (ByteArray.empty, 0, 0, ())) (List.getD x1 (Int.toNat v5) (ByteArray.empty, 0, 0, ()))) = true then (ds = [Dyn.mk Ty.bool Bool.false]) else ((InR IntKind.i64 (v5 + 1)) ∧ (R21_4 n (v5 + 1) (x0) (x1) ds))))) else (ds = [Dyn.mk Ty.bool Bool.true]))
end
theorem p21_0 (x0 : List (ByteArray × Int × Int × Unit)) (x1 : List (ByteArray × Int × Int × Unit)) : runF tab ext21 false 27 [] 2000 [] oks21 kds21 tys21 Try.f21.results [true] [.code b21] (entE 0 0 sig21 (x0, x1, ())) (entL sig21 (x0, x1, ())) = some ([Dyn.mk Ty.bool Bool.false], [], [((↑(List.length x0) : Int) != (↑(List.length x1) : Int)) = Bool.true]) := by kernel_rfl
theorem p21_1 (x0 : List (ByteArray × Int × Int × Unit)) (x1 : List (ByteArray × Int × Int × Unit)) : Am.runN tab ext21 false 27 [] 2000 [] [] [0, 1, 5] [] [false] [.code b21] (entE 0 0 sig21 (x0, x1, ())) (entL sig21 (x0, x1, ())) = some (cutAt b21 4, E21_4 (0) (x0) (x1), L21_4 (0) (x0) (x1), [((↑(List.length x0) : Int) != (↑(List.length x1) : Int)) = Bool.false]) := by kernel_rfl
theorem p21_2 (v5 : Int) (x0 : List (ByteArray × Int × Int × Unit)) (x1 : List (ByteArray × Int × Int × Unit)) : runF tab ext21 false 27 [] 2000 [] oks21 kds21 tys21 Try.f21.results [true, true] (cutAt b21 4) (E21_4 v5 x0 x1) (L21_4 v5 x0 x1) = some ([Dyn.mk Ty.bool Bool.false], [], [Decidable.decide (v5 < (↑(List.length x0) : Int)) = Bool.true, 0 ≤ v5, v5 < (↑(List.length x0) : Int), 0 ≤ v5, v5 < (↑(List.length x1) : Int), True, (!g45_0 (List.getD x0 (Int.toNat v5) (ByteArray.empty, 0, 0, ())) (List.getD x1 (Int.toNat v5) (ByteArray.empty, 0, 0, ()))) = Bool.true]) := by kernel_rfl
theorem p21_3 (v5 : Int) (x0 : List (ByteArray × Int × Int × Unit)) (x1 : List (ByteArray × Int × Int × Unit)) : Am.runN tab ext21 false 27 [] 2000 [] [] [0, 1, 5] [] [true, false] (cutAt b21 4) (E21_4 v5 x0 x1) (L21_4 v5 x0 x1) = some (cutAt b21 4, E21_4 (v5 + 1) (x0) (x1), L21_4 (v5 + 1) (x0) (x1), [Decidable.decide (v5 < (↑(List.length x0) : Int)) = Bool.true, 0 ≤ v5, v5 < (↑(List.length x0) : Int), 0 ≤ v5, v5 < (↑(List.length x1) : Int), True, (!g45_0 (List.getD x0 (Int.toNat v5) (ByteArray.empty, 0, 0, ())) (List.getD x1 (Int.toNat v5) (ByteArray.empty, 0, 0, ()))) = Bool.false, InR IntKind.i64 (v5 + 1)]) := by kernel_rfl
theorem p21_4 (v5 : Int) (x0 : List (ByteArray × Int × Int × Unit)) (x1 : List (ByteArray × Int × Int × Unit)) : runF tab ext21 false 27 [] 2000 [] oks21 kds21 tys21 Try.f21.results [false] (cutAt b21 4) (E21_4 v5 x0 x1) (L21_4 v5 x0 x1) = some ([Dyn.mk Ty.bool Bool.true], [], [Decidable.decide (v5 < (↑(List.length x0) : Int)) = Bool.false]) := by kernel_rfl
theorem snd21 : ∀ n, (∀ (x0 : List (ByteArray × Int × Int × Unit)) (x1 : List (ByteArray × Int × Int × Unit)) ds, R21 n x0 x1 ds → ∀ K q, AtV Try.prog 21 (PostR kds21 oks21 ds [] [] q K) 27 K q [] [.code b21] (entE 0 0 sig21 (x0, x1, ())) (entL sig21 (x0, x1, ()))) ∧ (∀ (v5 : Int) (x0 : List (ByteArray × Int × Int × Unit)) (x1 : List (ByteArray × Int × Int × Unit)) ds, R21_4 n v5 x0 x1 ds → ∀ K q, AtV Try.prog 21 (PostR kds21 oks21 ds [] [] q K) 27 K q [] (cutAt b21 4) (E21_4 v5 x0 x1) (L21_4 v5 x0 x1)) := by
  intro n
  induction n with
  | zero => exact ⟨fun _ _ _ h => by simp only [R21] at h, fun _ _ _ _ h => by simp only [R21_4] at h⟩
  | succ n ih =>
  obtain ⟨ih, ih4⟩ := ih
  refine ⟨?_, ?_⟩
  · intro x0 x1 ds h K q
    rw [R21] at h
    by_cases b0 : ((↑(List.length x0) : Int) != (↑(List.length x1) : Int)) = true
    · rw [if_pos b0] at h
      subst h
      exact AtV.fin Try.func21 tabOk ext21Ok mixed (p21_0 x0 x1) ⟨b0, trivial⟩
    · rw [if_neg b0] at h
      replace b0 := Bool.eq_false_iff.2 b0
      exact AtV.runN tabOk ext21Ok mixed (p21_1 x0 x1) ⟨b0, trivial⟩ (ih4 _ _ _ _ h K q)

  · intro v5 x0 x1 ds h K q
    rw [R21_4] at h
    by_cases b0 : (Decidable.decide (v5 < (↑(List.length x0) : Int))) = true
    · rw [if_pos b0] at h
      obtain ⟨s0, s1, h⟩ := h
      obtain ⟨s2, s3, h⟩ := h
      by_cases b1 : (!g45_0 (List.getD x0 (Int.toNat v5) (ByteArray.empty, 0, 0, ())) (List.getD x1 (Int.toNat v5) (ByteArray.empty, 0, 0, ()))) = true
      · rw [if_pos b1] at h
        subst h
        exact AtV.fin Try.func21 tabOk ext21Ok mixed (p21_2 v5 x0 x1) ⟨b0, s0, s1, s2, s3, trivial, b1, trivial⟩
      · rw [if_neg b1] at h
        replace b1 := Bool.eq_false_iff.2 b1
        obtain ⟨s4, h⟩ := h
        exact AtV.runN tabOk ext21Ok mixed (p21_3 v5 x0 x1) ⟨b0, s0, s1, s2, s3, trivial, b1, s4, trivial⟩ (ih4 _ _ _ _ h K q)
    · rw [if_neg b0] at h
      replace b0 := Bool.eq_false_iff.2 b0
      subst h
      exact AtV.fin Try.func21 tabOk ext21Ok mixed (p21_4 v5 x0 x1) ⟨b0, trivial⟩



theorem eq21 (x0 x1 : List (ByteArray × Int × Int × Unit)) (hl : x0.length = x1.length) (hm : x0.length ≤ maxLen) : ∀ k i : Nat, i + k = x0.length → R21_4 (k + 1) (i : Int) x0 x1 [⟨.bool, decide (x0.drop i = x1.drop i)⟩] := by
  intro k
  induction k with
  | zero =>
    intro i hi
    have h1 : ¬ (i : Int) < (x0.length : Int) := by omega
    rw [R21_4, if_neg (by simpa using h1), drop_end x0 i (by omega), drop_end x1 i (by omega)]
    simp
  | succ k ih =>
    intro i hi
    have h1 : (i : Int) < (x0.length : Int) := by omega
    rw [R21_4, if_pos (by simpa using h1)]
    refine ⟨by omega, h1, by omega, by omega, ?_⟩
    simp only [Int.toNat_natCast]
    rw [drop_get x0 i (ByteArray.empty, (0 : Int), (0 : Int), ()) (by omega), drop_get x1 i (ByteArray.empty, (0 : Int), (0 : Int), ()) (by omega)]
    by_cases he : x0.getD i (ByteArray.empty, (0 : Int), (0 : Int), ()) = x1.getD i (ByteArray.empty, (0 : Int), (0 : Int), ())
    · have hd := (eqd45 _ _).2 he
      rw [if_neg (by rw [hd]; simp)]
      refine ⟨inR_up hm (by omega), ?_⟩
      have := ih (i + 1) (by omega)
      simp only [he, List.cons.injEq, true_and]
      exact this
    · have hd : g45_0 (x0.getD i (ByteArray.empty, (0 : Int), (0 : Int), ())) (x1.getD i (ByteArray.empty, (0 : Int), (0 : Int), ())) = false :=
        Bool.eq_false_iff.2 fun h => he ((eqd45 _ _).1 h)
      rw [if_pos (by rw [hd]; rfl)]
      simp only [he, List.cons.injEq, false_and, decide_false]

def g21_0 (x0 x1 : List (ByteArray × Int × Int × Unit)) : Bool := decide (x0 = x1)
def P21 (x0 x1 : List (ByteArray × Int × Int × Unit)) : Prop := True
def S21 : Am.Spec := { sig := sig21, pre := fun ⟨x0, x1, _⟩ => P21 x0 x1, res := fun ⟨x0, x1, _⟩ => [⟨Ty.bool, g21_0 x0 x1⟩] }
theorem con21 : Contract Try.prog 21 S21 := contract_of Try.func21 hb21 (Nat.le_of_ble_eq_true (by kernel_rfl)) (fun ⟨x0, x1, _⟩ h hwf K q => by
  refine (snd21 (x0.length + 2)).1 x0 x1 _ ?_ K q
  show R21 (x0.length + 1 + 1) x0 x1 [⟨Ty.bool, decide (x0 = x1)⟩]
  rw [R21]
  by_cases hl : x0.length = x1.length
  · rw [if_neg (by simp [hl])]
    have := eq21 x0 x1 hl hwf.1.1 x0.length 0 (by omega)
    simpa using this
  · rw [if_pos (by simp; omega)]
    have : x0 ≠ x1 := fun h => hl (by rw [h])
    simp [this])

end Go.Proofs.Ytleifkpekoinlaa

/- Function 6 (laws.eqDesk): its runs between cut points. Written by a program of this repo (gen). -/
set_option linter.unusedVariables false
set_option linter.unusedSimpArgs false
set_option maxRecDepth 100000
namespace Go.Proofs.Ytleifkpekoinlaa
open Go Go.Am Go.Proofs
def ext6 : Ext := [(10, S10), (11, S11), (12, S12), (13, S13), (14, S14), (15, S15), (16, S16), (17, S17), (18, S18), (19, S19), (20, S20), (21, S21)]
theorem call6_10 : Callable Try.prog 10 := ⟨Try.f10, Try.func10, by kernel_rfl, by kernel_rfl⟩
theorem call6_11 : Callable Try.prog 11 := ⟨Try.f11, Try.func11, by kernel_rfl, by kernel_rfl⟩
theorem call6_12 : Callable Try.prog 12 := ⟨Try.f12, Try.func12, by kernel_rfl, by kernel_rfl⟩
theorem call6_13 : Callable Try.prog 13 := ⟨Try.f13, Try.func13, by kernel_rfl, by kernel_rfl⟩
theorem call6_14 : Callable Try.prog 14 := ⟨Try.f14, Try.func14, by kernel_rfl, by kernel_rfl⟩
theorem call6_15 : Callable Try.prog 15 := ⟨Try.f15, Try.func15, by kernel_rfl, by kernel_rfl⟩
theorem call6_16 : Callable Try.prog 16 := ⟨Try.f16, Try.func16, by kernel_rfl, by kernel_rfl⟩
theorem call6_17 : Callable Try.prog 17 := ⟨Try.f17, Try.func17, by kernel_rfl, by kernel_rfl⟩
theorem call6_18 : Callable Try.prog 18 := ⟨Try.f18, Try.func18, by kernel_rfl, by kernel_rfl⟩
theorem call6_19 : Callable Try.prog 19 := ⟨Try.f19, Try.func19, by kernel_rfl, by kernel_rfl⟩
theorem call6_20 : Callable Try.prog 20 := ⟨Try.f20, Try.func20, by kernel_rfl, by kernel_rfl⟩
theorem call6_21 : Callable Try.prog 21 := ⟨Try.f21, Try.func21, by kernel_rfl, by kernel_rfl⟩
theorem ext6Ok : ExtOk Try.prog ext6 := ⟨⟨call6_10, con10⟩, ⟨call6_11, con11⟩, ⟨call6_12, con12⟩, ⟨call6_13, con13⟩, ⟨call6_14, con14⟩, ⟨call6_15, con15⟩, ⟨call6_16, con16⟩, ⟨call6_17, con17⟩, ⟨call6_18, con18⟩, ⟨call6_19, con19⟩, ⟨call6_20, con20⟩, ⟨call6_21, con21⟩, trivial⟩
/-! Function 6. -/
noncomputable def b6 : Code := bodyOf Try.f6
theorem hb6 : Try.f6.body = some b6 := by kernel_rfl
def sig6 : List AT := [AT.v (Ty.cons (Ty.sl (Ty.cons Ty.str (Ty.cons (Ty.int IntKind.i64) (Ty.cons (Ty.int IntKind.i64) (Ty.cons (Ty.int IntKind.i64) Ty.unit))))) (Ty.cons (Ty.cons (Ty.int IntKind.i64) (Ty.cons (Ty.int IntKind.i64) (Ty.cons (Ty.int IntKind.i64) (Ty.cons (Ty.int IntKind.i64) Ty.unit)))) (Ty.cons (Ty.sl (Ty.cons (Ty.int IntKind.i64) (Ty.cons (Ty.int IntKind.i64) (Ty.cons (Ty.int IntKind.i64) Ty.unit)))) (Ty.cons (Ty.sl (Ty.cons (Ty.int IntKind.i64) (Ty.cons (Ty.int IntKind.i64) (Ty.cons (Ty.int IntKind.i64) Ty.unit)))) (Ty.cons (Ty.cons (Ty.int IntKind.i64) (Ty.cons (Ty.int IntKind.i64) (Ty.cons (Ty.int IntKind.i64) Ty.unit))) (Ty.cons (Ty.cons (Ty.int IntKind.i64) (Ty.cons (Ty.int IntKind.i64) (Ty.cons (Ty.int IntKind.i64) Ty.unit))) (Ty.cons (Ty.sl (Ty.cons Ty.str (Ty.cons (Ty.int IntKind.i64) (Ty.cons (Ty.int IntKind.i64) Ty.unit)))) (Ty.cons (Ty.cons (Ty.int IntKind.i64) (Ty.cons (Ty.int IntKind.i64) (Ty.cons (Ty.int IntKind.i64) (Ty.cons (Ty.int IntKind.i64) Ty.unit)))) (Ty.cons (Ty.sl (Ty.cons Ty.str (Ty.cons (Ty.int IntKind.i64) (Ty.cons (Ty.int IntKind.i64) (Ty.cons (Ty.int IntKind.i64) Ty.unit))))) (Ty.cons (Ty.sl (Ty.cons (Ty.int IntKind.i64) (Ty.cons (Ty.int IntKind.i64) (Ty.cons (Ty.int IntKind.i64) Ty.unit)))) (Ty.cons (Ty.sl (Ty.cons Ty.str (Ty.cons (Ty.int IntKind.i64) (Ty.cons (Ty.int IntKind.i64) Ty.unit)))) (Ty.cons (Ty.sl (Ty.cons Ty.str (Ty.cons (Ty.int IntKind.i64) (Ty.cons (Ty.int IntKind.i64) Ty.unit)))) Ty.unit)))))))))))), AT.v (Ty.cons (Ty.sl (Ty.cons Ty.str (Ty.cons (Ty.int IntKind.i64) (Ty.cons (Ty.int IntKind.i64) (Ty.cons (Ty.int IntKind.i64) Ty.unit))))) (Ty.cons (Ty.cons (Ty.int IntKind.i64) (Ty.cons (Ty.int IntKind.i64) (Ty.cons (Ty.int IntKind.i64) (Ty.cons (Ty.int IntKind.i64) Ty.unit)))) (Ty.cons (Ty.sl (Ty.cons (Ty.int IntKind.i64) (Ty.cons (Ty.int IntKind.i64) (Ty.cons (Ty.int IntKind.i64) Ty.unit)))) (Ty.cons (Ty.sl (Ty.cons (Ty.int IntKind.i64) (Ty.cons (Ty.int IntKind.i64) (Ty.cons (Ty.int IntKind.i64) Ty.unit)))) (Ty.cons (Ty.cons (Ty.int IntKind.i64) (Ty.cons (Ty.int IntKind.i64) (Ty.cons (Ty.int IntKind.i64) Ty.unit))) (Ty.cons (Ty.cons (Ty.int IntKind.i64) (Ty.cons (Ty.int IntKind.i64) (Ty.cons (Ty.int IntKind.i64) Ty.unit))) (Ty.cons (Ty.sl (Ty.cons Ty.str (Ty.cons (Ty.int IntKind.i64) (Ty.cons (Ty.int IntKind.i64) Ty.unit)))) (Ty.cons (Ty.cons (Ty.int IntKind.i64) (Ty.cons (Ty.int IntKind.i64) (Ty.cons (Ty.int IntKind.i64) (Ty.cons (Ty.int IntKind.i64) Ty.unit)))) (Ty.cons (Ty.sl (Ty.cons Ty.str (Ty.cons (Ty.int IntKind.i64) (Ty.cons (Ty.int IntKind.i64) (Ty.cons (Ty.int IntKind.i64) Ty.unit))))) (Ty.cons (Ty.sl (Ty.cons (Ty.int IntKind.i64) (Ty.cons (Ty.int IntKind.i64) (Ty.cons (Ty.int IntKind.i64) Ty.unit)))) (Ty.cons (Ty.sl (Ty.cons Ty.str (Ty.cons (Ty.int IntKind.i64) (Ty.cons (Ty.int IntKind.i64) Ty.unit)))) (Ty.cons (Ty.sl (Ty.cons Ty.str (Ty.cons (Ty.int IntKind.i64) (Ty.cons (Ty.int IntKind.i64) Ty.unit)))) Ty.unit))))))))))))]
def tys6 : List Ty := [Ty.bool]
def kds6 : List RK := []
def oks6 : List AT := owns sig6
def P6 (x0 : List (ByteArray × Int × Int × Int × Unit) × (Int × Int × Int × Int × Unit) × List (Int × Int × Int × Unit) × List (Int × Int × Int × Unit) × (Int × Int × Int × Unit) × (Int × Int × Int × Unit) × List (ByteArray × Int × Int × Unit) × (Int × Int × Int × Int × Unit) × List (ByteArray × Int × Int × Int × Unit) × List (Int × Int × Int × Unit) × List (ByteArray × Int × Int × Unit) × List (ByteArray × Int × Int × Unit) × Unit) (x1 : List (ByteArray × Int × Int × Int × Unit) × (Int × Int × Int × Int × Unit) × List (Int × Int × Int × Unit) × List (Int × Int × Int × Unit) × (Int × Int × Int × Unit) × (Int × Int × Int × Unit) × List (ByteArray × Int × Int × Unit) × (Int × Int × Int × Int × Unit) × List (ByteArray × Int × Int × Int × Unit) × List (Int × Int × Int × Unit) × List (ByteArray × Int × Int × Unit) × List (ByteArray × Int × Int × Unit) × Unit) : Prop := True
def g6_0 (x0 : List (ByteArray × Int × Int × Int × Unit) × (Int × Int × Int × Int × Unit) × List (Int × Int × Int × Unit) × List (Int × Int × Int × Unit) × (Int × Int × Int × Unit) × (Int × Int × Int × Unit) × List (ByteArray × Int × Int × Unit) × (Int × Int × Int × Int × Unit) × List (ByteArray × Int × Int × Int × Unit) × List (Int × Int × Int × Unit) × List (ByteArray × Int × Int × Unit) × List (ByteArray × Int × Int × Unit) × Unit) (x1 : List (ByteArray × Int × Int × Int × Unit) × (Int × Int × Int × Int × Unit) × List (Int × Int × Int × Unit) × List (Int × Int × Int × Unit) × (Int × Int × Int × Unit) × (Int × Int × Int × Unit) × List (ByteArray × Int × Int × Unit) × (Int × Int × Int × Int × Unit) × List (ByteArray × Int × Int × Int × Unit) × List (Int × Int × Int × Unit) × List (ByteArray × Int × Int × Unit) × List (ByteArray × Int × Int × Unit) × Unit) : Bool := (if (!g10_0 (Prod.fst x0) (Prod.fst x1)) = true then Bool.false else (if (!g11_0 (Prod.fst (Prod.snd x0)) (Prod.fst (Prod.snd x1))) = true then Bool.false else (if (!g12_0 (Prod.fst (Prod.snd (Prod.snd x0))) (Prod.fst (Prod.snd (Prod.snd x1)))) = true then Bool.false else (if (!g13_0 (Prod.fst (Prod.snd (Prod.snd (Prod.snd x0)))) (Prod.fst (Prod.snd (Prod.snd (Prod.snd x1))))) = true then Bool.false else (if (!g14_0 (Prod.fst (Prod.snd (Prod.snd (Prod.snd (Prod.snd x0))))) (Prod.fst (Prod.snd (Prod.snd (Prod.snd (Prod.snd x1)))))) = true then Bool.false else (if (!g15_0 (Prod.fst (Prod.snd (Prod.snd (Prod.snd (Prod.snd (Prod.snd x0)))))) (Prod.fst (Prod.snd (Prod.snd (Prod.snd (Prod.snd (Prod.snd x1))))))) = true then Bool.false else (if (!g16_0 (Prod.fst (Prod.snd (Prod.snd (Prod.snd (Prod.snd (Prod.snd (Prod.snd x0))))))) (Prod.fst (Prod.snd (Prod.snd (Prod.snd (Prod.snd (Prod.snd (Prod.snd x1)))))))) = true then Bool.false else (if (!g17_0 (Prod.fst (Prod.snd (Prod.snd (Prod.snd (Prod.snd (Prod.snd (Prod.snd (Prod.snd x0)))))))) (Prod.fst (Prod.snd (Prod.snd (Prod.snd (Prod.snd (Prod.snd (Prod.snd (Prod.snd x1))))))))) = true then Bool.false else (if (!g18_0 (Prod.fst (Prod.snd (Prod.snd (Prod.snd (Prod.snd (Prod.snd (Prod.snd (Prod.snd (Prod.snd x0))))))))) (Prod.fst (Prod.snd (Prod.snd (Prod.snd (Prod.snd (Prod.snd (Prod.snd (Prod.snd (Prod.snd x1)))))))))) = true then Bool.false else (if (!g19_0 (Prod.fst (Prod.snd (Prod.snd (Prod.snd (Prod.snd (Prod.snd (Prod.snd (Prod.snd (Prod.snd (Prod.snd x0)))))))))) (Prod.fst (Prod.snd (Prod.snd (Prod.snd (Prod.snd (Prod.snd (Prod.snd (Prod.snd (Prod.snd (Prod.snd x1))))))))))) = true then Bool.false else (if (!g20_0 (Prod.fst (Prod.snd (Prod.snd (Prod.snd (Prod.snd (Prod.snd (Prod.snd (Prod.snd (Prod.snd (Prod.snd (Prod.snd x0))))))))))) (Prod.fst (Prod.snd (Prod.snd (Prod.snd (Prod.snd (Prod.snd (Prod.snd (Prod.snd (Prod.snd (Prod.snd (Prod.snd x1)))))))))))) = true then Bool.false else (if (!g21_0 (Prod.fst (Prod.snd (Prod.snd (Prod.snd (Prod.snd (Prod.snd (Prod.snd (Prod.snd (Prod.snd (Prod.snd (Prod.snd (Prod.snd x0)))))))))))) (Prod.fst (Prod.snd (Prod.snd (Prod.snd (Prod.snd (Prod.snd (Prod.snd (Prod.snd (Prod.snd (Prod.snd (Prod.snd (Prod.snd x1))))))))))))) = true then Bool.false else Bool.true))))))))))))
theorem p6_0 (x0 : List (ByteArray × Int × Int × Int × Unit) × (Int × Int × Int × Int × Unit) × List (Int × Int × Int × Unit) × List (Int × Int × Int × Unit) × (Int × Int × Int × Unit) × (Int × Int × Int × Unit) × List (ByteArray × Int × Int × Unit) × (Int × Int × Int × Int × Unit) × List (ByteArray × Int × Int × Int × Unit) × List (Int × Int × Int × Unit) × List (ByteArray × Int × Int × Unit) × List (ByteArray × Int × Int × Unit) × Unit) (x1 : List (ByteArray × Int × Int × Int × Unit) × (Int × Int × Int × Int × Unit) × List (Int × Int × Int × Unit) × List (Int × Int × Int × Unit) × (Int × Int × Int × Unit) × (Int × Int × Int × Unit) × List (ByteArray × Int × Int × Unit) × (Int × Int × Int × Int × Unit) × List (ByteArray × Int × Int × Int × Unit) × List (Int × Int × Int × Unit) × List (ByteArray × Int × Int × Unit) × List (ByteArray × Int × Int × Unit) × Unit) : runF tab ext6 false 77 [] 2000 [] oks6 kds6 tys6 Try.f6.results [true] [.code b6] (entE 0 0 sig6 (x0, x1, ())) (entL sig6 (x0, x1, ())) = some ([Dyn.mk Ty.bool Bool.false], [], [True, (!g10_0 (Prod.fst x0) (Prod.fst x1)) = Bool.true]) := by kernel_rfl
theorem p6_1 (x0 : List (ByteArray × Int × Int × Int × Unit) × (Int × Int × Int × Int × Unit) × List (Int × Int × Int × Unit) × List (Int × Int × Int × Unit) × (Int × Int × Int × Unit) × (Int × Int × Int × Unit) × List (ByteArray × Int × Int × Unit) × (Int × Int × Int × Int × Unit) × List (ByteArray × Int × Int × Int × Unit) × List (Int × Int × Int × Unit) × List (ByteArray × Int × Int × Unit) × List (ByteArray × Int × Int × Unit) × Unit) (x1 : List (ByteArray × Int × Int × Int × Unit) × (Int × Int × Int × Int × Unit) × List (Int × Int × Int × Unit) × List (Int × Int × Int × Unit) × (Int × Int × Int × Unit) × (Int × Int × Int × Unit) × List (ByteArray × Int × Int × Unit) × (Int × Int × Int × Int × Unit) × List (ByteArray × Int × Int × Int × Unit) × List (Int × Int × Int × Unit) × List (ByteArray × Int × Int × Unit) × List (ByteArray × Int × Int × Unit) × Unit) : runF tab ext6 false 77 [] 2000 [] oks6 kds6 tys6 Try.f6.results [false, true] [.code b6] (entE 0 0 sig6 (x0, x1, ())) (entL sig6 (x0, x1, ())) = some ([Dyn.mk Ty.bool Bool.false], [], [True, (!g10_0 (Prod.fst x0) (Prod.fst x1)) = Bool.false, True, (!g11_0 (Prod.fst (Prod.snd x0)) (Prod.fst (Prod.snd x1))) = Bool.true]) := by kernel_rfl
theorem p6_2 (x0 : List (ByteArray × Int × Int × Int × Unit) × (Int × Int × Int × Int × Unit) × List (Int × Int × Int × Unit) × List (Int × Int × Int × Unit) × (Int × Int × Int × Unit) × (Int × Int × Int × Unit) × List (ByteArray × Int × Int × Unit) × (Int × Int × Int × Int × Unit) × List (ByteArray × Int × Int × Int × Unit) × List (Int × Int × Int × Unit) × List (ByteArray × Int × Int × Unit) × List (ByteArray × Int × Int × Unit) × Unit) (x1 : List (ByteArray × Int × Int × Int × Unit) × (Int × Int × Int × Int × Unit) × List (Int × Int × Int × Unit) × List (Int × Int × Int × Unit) × (Int × Int × Int × Unit) × (Int × Int × Int × Unit) × List (ByteArray × Int × Int × Unit) × (Int × Int × Int × Int × Unit) × List (ByteArray × Int × Int × Int × Unit) × List (Int × Int × Int × Unit) × List (ByteArray × Int × Int × Unit) × List (ByteArray × Int × Int × Unit) × Unit) : runF tab ext6 false 77 [] 2000 [] oks6 kds6 tys6 Try.f6.results [false, false, true] [.code b6] (entE 0 0 sig6 (x0, x1, ())) (entL sig6 (x0, x1, ())) = some ([Dyn.mk Ty.bool Bool.false], [], [True, (!g10_0 (Prod.fst x0) (Prod.fst x1)) = Bool.false, True, (!g11_0 (Prod.fst (Prod.snd x0)) (Prod.fst (Prod.snd x1))) = Bool.false, True, (!g12_0 (Prod.fst (Prod.snd (Prod.snd x0))) (Prod.fst (Prod.snd (Prod.snd x1)))) = Bool.true]) := by kernel_rfl
theorem p6_3 (x0 : List (ByteArray × Int × Int × Int × Unit) × (Int × Int × Int × Int × Unit) × List (Int × Int × Int × Unit) × List (Int × Int × Int × Unit) × (Int × Int × Int × Unit) × (Int × Int × Int × Unit) × List (ByteArray × Int × Int × Unit) × (Int × Int × Int × Int × Unit) × List (ByteArray × Int × Int × Int × Unit) × List (Int × Int × Int × Unit) × List (ByteArray × Int × Int × Unit) × List (ByteArray × Int × Int × Unit) × Unit) (x1 : List (ByteArray × Int × Int × Int × Unit) × (Int × Int × Int × Int × Unit) × List (Int × Int × Int × Unit) × List (Int × Int × Int × Unit) × (Int × Int × Int × Unit) × (Int × Int × Int × Unit) × List (ByteArray × Int × Int × Unit) × (Int × Int × Int × Int × Unit) × List (ByteArray × Int × Int × Int × Unit) × List (Int × Int × Int × Unit) × List (ByteArray × Int × Int × Unit) × List (ByteArray × Int × Int × Unit) × Unit) : runF tab ext6 false 77 [] 2000 [] oks6 kds6 tys6 Try.f6.results [false, false, false, true] [.code b6] (entE 0 0 sig6 (x0, x1, ())) (entL sig6 (x0, x1, ())) = some ([Dyn.mk Ty.bool Bool.false], [], [True, (!g10_0 (Prod.fst x0) (Prod.fst x1)) = Bool.false, True, (!g11_0 (Prod.fst (Prod.snd x0)) (Prod.fst (Prod.snd x1))) = Bool.false, True, (!g12_0 (Prod.fst (Prod.snd (Prod.snd x0))) (Prod.fst (Prod.snd (Prod.snd x1)))) = Bool.false, True, (!g13_0 (Prod.fst (Prod.snd (Prod.snd (Prod.snd x0)))) (Prod.fst (Prod.snd (Prod.snd (Prod.snd x1))))) = Bool.true]) := by kernel_rfl
theorem p6_4 (x0 : List (ByteArray × Int × Int × Int × Unit) × (Int × Int × Int × Int × Unit) × List (Int × Int × Int × Unit) × List (Int × Int × Int × Unit) × (Int × Int × Int × Unit) × (Int × Int × Int × Unit) × List (ByteArray × Int × Int × Unit) × (Int × Int × Int × Int × Unit) × List (ByteArray × Int × Int × Int × Unit) × List (Int × Int × Int × Unit) × List (ByteArray × Int × Int × Unit) × List (ByteArray × Int × Int × Unit) × Unit) (x1 : List (ByteArray × Int × Int × Int × Unit) × (Int × Int × Int × Int × Unit) × List (Int × Int × Int × Unit) × List (Int × Int × Int × Unit) × (Int × Int × Int × Unit) × (Int × Int × Int × Unit) × List (ByteArray × Int × Int × Unit) × (Int × Int × Int × Int × Unit) × List (ByteArray × Int × Int × Int × Unit) × List (Int × Int × Int × Unit) × List (ByteArray × Int × Int × Unit) × List (ByteArray × Int × Int × Unit) × Unit) : runF tab ext6 false 77 [] 2000 [] oks6 kds6 tys6 Try.f6.results [false, false, false, false, true] [.code b6] (entE 0 0 sig6 (x0, x1, ())) (entL sig6 (x0, x1, ())) = some ([Dyn.mk Ty.bool Bool.false], [], [True, (!g10_0 (Prod.fst x0) (Prod.fst x1)) = Bool.false, True, (!g11_0 (Prod.fst (Prod.snd x0)) (Prod.fst (Prod.snd x1))) = Bool.false, True, (!g12_0 (Prod.fst (Prod.snd (Prod.snd x0))) (Prod.fst (Prod.snd (Prod.snd x1)))) = Bool.false, True, (!g13_0 (Prod.fst (Prod.snd (Prod.snd (Prod.snd x0)))) (Prod.fst (Prod.snd (Prod.snd (Prod.snd x1))))) = Bool.false, True, (!g14_0 (Prod.fst (Prod.snd (Prod.snd (Prod.snd (Prod.snd x0))))) (Prod.fst (Prod.snd (Prod.snd (Prod.snd (Prod.snd x1)))))) = Bool.true]) := by kernel_rfl
theorem p6_5 (x0 : List (ByteArray × Int × Int × Int × Unit) × (Int × Int × Int × Int × Unit) × List (Int × Int × Int × Unit) × List (Int × Int × Int × Unit) × (Int × Int × Int × Unit) × (Int × Int × Int × Unit) × List (ByteArray × Int × Int × Unit) × (Int × Int × Int × Int × Unit) × List (ByteArray × Int × Int × Int × Unit) × List (Int × Int × Int × Unit) × List (ByteArray × Int × Int × Unit) × List (ByteArray × Int × Int × Unit) × Unit) (x1 : List (ByteArray × Int × Int × Int × Unit) × (Int × Int × Int × Int × Unit) × List (Int × Int × Int × Unit) × List (Int × Int × Int × Unit) × (Int × Int × Int × Unit) × (Int × Int × Int × Unit) × List (ByteArray × Int × Int × Unit) × (Int × Int × Int × Int × Unit) × List (ByteArray × Int × Int × Int × Unit) × List (Int × Int × Int × Unit) × List (ByteArray × Int × Int × Unit) × List (ByteArray × Int × Int × Unit) × Unit) : runF tab ext6 false 77 [] 2000 [] oks6 kds6 tys6 Try.f6.results [false, false, false, false, false, true] [.code b6] (entE 0 0 sig6 (x0, x1, ())) (entL sig6 (x0, x1, ())) = some ([Dyn.mk Ty.bool Bool.false], [], [True, (!g10_0 (Prod.fst x0) (Prod.fst x1)) = Bool.false, True, (!g11_0 (Prod.fst (Prod.snd x0)) (Prod.fst (Prod.snd x1))) = Bool.false, True, (!g12_0 (Prod.fst (Prod.snd (Prod.snd x0))) (Prod.fst (Prod.snd (Prod.snd x1)))) = Bool.false, True, (!g13_0 (Prod.fst (Prod.snd (Prod.snd (Prod.snd x0)))) (Prod.fst (Prod.snd (Prod.snd (Prod.snd x1))))) = Bool.false, True, (!g14_0 (Prod.fst (Prod.snd (Prod.snd (Prod.snd (Prod.snd x0))))) (Prod.fst (Prod.snd (Prod.snd (Prod.snd (Prod.snd x1)))))) = Bool.false, True, (!g15_0 (Prod.fst (Prod.snd (Prod.snd (Prod.snd (Prod.snd (Prod.snd x0)))))) (Prod.fst (Prod.snd (Prod.snd (Prod.snd (Prod.snd (Prod.snd x1))))))) = Bool.true]) := by kernel_rfl
theorem p6_6 (x0 : List (ByteArray × Int × Int × Int × Unit) × (Int × Int × Int × Int × Unit) × List (Int × Int × Int × Unit) × List (Int × Int × Int × Unit) × (Int × Int × Int × Unit) × (Int × Int × Int × Unit) × List (ByteArray × Int × Int × Unit) × (Int × Int × Int × Int × Unit) × List (ByteArray × Int × Int × Int × Unit) × List (Int × Int × Int × Unit) × List (ByteArray × Int × Int × Unit) × List (ByteArray × Int × Int × Unit) × Unit) (x1 : List (ByteArray × Int × Int × Int × Unit) × (Int × Int × Int × Int × Unit) × List (Int × Int × Int × Unit) × List (Int × Int × Int × Unit) × (Int × Int × Int × Unit) × (Int × Int × Int × Unit) × List (ByteArray × Int × Int × Unit) × (Int × Int × Int × Int × Unit) × List (ByteArray × Int × Int × Int × Unit) × List (Int × Int × Int × Unit) × List (ByteArray × Int × Int × Unit) × List (ByteArray × Int × Int × Unit) × Unit) : runF tab ext6 false 77 [] 2000 [] oks6 kds6 tys6 Try.f6.results [false, false, false, false, false, false, true] [.code b6] (entE 0 0 sig6 (x0, x1, ())) (entL sig6 (x0, x1, ())) = some ([Dyn.mk Ty.bool Bool.false], [], [True, (!g10_0 (Prod.fst x0) (Prod.fst x1)) = Bool.false, True, (!g11_0 (Prod.fst (Prod.snd x0)) (Prod.fst (Prod.snd x1))) = Bool.false, True, (!g12_0 (Prod.fst (Prod.snd (Prod.snd x0))) (Prod.fst (Prod.snd (Prod.snd x1)))) = Bool.false, True, (!g13_0 (Prod.fst (Prod.snd (Prod.snd (Prod.snd x0)))) (Prod.fst (Prod.snd (Prod.snd (Prod.snd x1))))) = Bool.false, True, (!g14_0 (Prod.fst (Prod.snd (Prod.snd (Prod.snd (Prod.snd x0))))) (Prod.fst (Prod.snd (Prod.snd (Prod.snd (Prod.snd x1)))))) = Bool.false, True, (!g15_0 (Prod.fst (Prod.snd (Prod.snd (Prod.snd (Prod.snd (Prod.snd x0)))))) (Prod.fst (Prod.snd (Prod.snd (Prod.snd (Prod.snd (Prod.snd x1))))))) = Bool.false, True, (!g16_0 (Prod.fst (Prod.snd (Prod.snd (Prod.snd (Prod.snd (Prod.snd (Prod.snd x0))))))) (Prod.fst (Prod.snd (Prod.snd (Prod.snd (Prod.snd (Prod.snd (Prod.snd x1)))))))) = Bool.true]) := by kernel_rfl
theorem p6_7 (x0 : List (ByteArray × Int × Int × Int × Unit) × (Int × Int × Int × Int × Unit) × List (Int × Int × Int × Unit) × List (Int × Int × Int × Unit) × (Int × Int × Int × Unit) × (Int × Int × Int × Unit) × List (ByteArray × Int × Int × Unit) × (Int × Int × Int × Int × Unit) × List (ByteArray × Int × Int × Int × Unit) × List (Int × Int × Int × Unit) × List (ByteArray × Int × Int × Unit) × List (ByteArray × Int × Int × Unit) × Unit) (x1 : List (ByteArray × Int × Int × Int × Unit) × (Int × Int × Int × Int × Unit) × List (Int × Int × Int × Unit) × List (Int × Int × Int × Unit) × (Int × Int × Int × Unit) × (Int × Int × Int × Unit) × List (ByteArray × Int × Int × Unit) × (Int × Int × Int × Int × Unit) × List (ByteArray × Int × Int × Int × Unit) × List (Int × Int × Int × Unit) × List (ByteArray × Int × Int × Unit) × List (ByteArray × Int × Int × Unit) × Unit) : runF tab ext6 false 77 [] 2000 [] oks6 kds6 tys6 Try.f6.results [false, false, false, false, false, false, false, true] [.code b6] (entE 0 0 sig6 (x0, x1, ())) (entL sig6 (x0, x1, ())) = some ([Dyn.mk Ty.bool Bool.false], [], [True, (!g10_0 (Prod.fst x0) (Prod.fst x1)) = Bool.false, True, (!g11_0 (Prod.fst (Prod.snd x0)) (Prod.fst (Prod.snd x1))) = Bool.false, True, (!g12_0 (Prod.fst (Prod.snd (Prod.snd x0))) (Prod.fst (Prod.snd (Prod.snd x1)))) = Bool.false, True, (!g13_0 (Prod.fst (Prod.snd (Prod.snd (Prod.snd x0)))) (Prod.fst (Prod.snd (Prod.snd (Prod.snd x1))))) = Bool.false, True, (!g14_0 (Prod.fst (Prod.snd (Prod.snd (Prod.snd (Prod.snd x0))))) (Prod.fst (Prod.snd (Prod.snd (Prod.snd (Prod.snd x1)))))) = Bool.false, True, (!g15_0 (Prod.fst (Prod.snd (Prod.snd (Prod.snd (Prod.snd (Prod.snd x0)))))) (Prod.fst (Prod.snd (Prod.snd (Prod.snd (Prod.snd (Prod.snd x1))))))) = Bool.false, True, (!g16_0 (Prod.fst (Prod.snd (Prod.snd (Prod.snd (Prod.snd (Prod.snd (Prod.snd x0))))))) (Prod.fst (Prod.snd (Prod.snd (Prod.snd (Prod.snd (Prod.snd (Prod.snd x1)))))))) = Bool.false, True, (!g17_0 (Prod.fst (Prod.snd (Prod.snd (Prod.snd (Prod.snd (Prod.snd (Prod.snd (Prod.snd x0)))))))) (Prod.fst (Prod.snd (Prod.snd (Prod.snd (Prod.snd (Prod.snd (Prod.snd (Prod.snd x1))))))))) = Bool.true]) := by kernel_rfl
theorem p6_8 (x0 : List (ByteArray × Int × Int × Int × Unit) × (Int × Int × Int × Int × Unit) × List (Int × Int × Int × Unit) × List (Int × Int × Int × Unit) × (Int × Int × Int × Unit) × (Int × Int × Int × Unit) × List (ByteArray × Int × Int × Unit) × (Int × Int × Int × Int × Unit) × List (ByteArray × Int × Int × Int × Unit) × List (Int × Int × Int × Unit) × List (ByteArray × Int × Int × Unit) × List (ByteArray × Int × Int × Unit) × Unit) (x1 : List (ByteArray × Int × Int × Int × Unit) × (Int × Int × Int × Int × Unit) × List (Int × Int × Int × Unit) × List (Int × Int × Int × Unit) × (Int × Int × Int × Unit) × (Int × Int × Int × Unit) × List (ByteArray × Int × Int × Unit) × (Int × Int × Int × Int × Unit) × List (ByteArray × Int × Int × Int × Unit) × List (Int × Int × Int × Unit) × List (ByteArray × Int × Int × Unit) × List (ByteArray × Int × Int × Unit) × Unit) : runF tab ext6 false 77 [] 2000 [] oks6 kds6 tys6 Try.f6.results [false, false, false, false, false, false, false, false, true] [.code b6] (entE 0 0 sig6 (x0, x1, ())) (entL sig6 (x0, x1, ())) = some ([Dyn.mk Ty.bool Bool.false], [], [True, (!g10_0 (Prod.fst x0) (Prod.fst x1)) = Bool.false, True, (!g11_0 (Prod.fst (Prod.snd x0)) (Prod.fst (Prod.snd x1))) = Bool.false, True, (!g12_0 (Prod.fst (Prod.snd (Prod.snd x0))) (Prod.fst (Prod.snd (Prod.snd x1)))) = Bool.false, True, (!g13_0 (Prod.fst (Prod.snd (Prod.snd (Prod.snd x0)))) (Prod.fst (Prod.snd (Prod.snd (Prod.snd x1))))) = Bool.false, True, (!g14_0 (Prod.fst (Prod.snd (Prod.snd (Prod.snd (Prod.snd x0))))) (Prod.fst (Prod.snd (Prod.snd (Prod.snd (Prod.snd x1)))))) = Bool.false, True, (!g15_0 (Prod.fst (Prod.snd (Prod.snd (Prod.snd (Prod.snd (Prod.snd x0)))))) (Prod.fst (Prod.snd (Prod.snd (Prod.snd (Prod.snd (Prod.snd x1))))))) = Bool.false, True, (!g16_0 (Prod.fst (Prod.snd (Prod.snd (Prod.snd (Prod.snd (Prod.snd (Prod.snd x0))))))) (Prod.fst (Prod.snd (Prod.snd (Prod.snd (Prod.snd (Prod.snd (Prod.snd x1)))))))) = Bool.false, True, (!g17_0 (Prod.fst (Prod.snd (Prod.snd (Prod.snd (Prod.snd (Prod.snd (Prod.snd (Prod.snd x0)))))))) (Prod.fst (Prod.snd (Prod.snd (Prod.snd (Prod.snd (Prod.snd (Prod.snd (Prod.snd x1))))))))) = Bool.false, True, (!g18_0 (Prod.fst (Prod.snd (Prod.snd (Prod.snd (Prod.snd (Prod.snd (Prod.snd (Prod.snd (Prod.snd x0))))))))) (Prod.fst (Prod.snd (Prod.snd (Prod.snd (Prod.snd (Prod.snd (Prod.snd (Prod.snd (Prod.snd x1)))))))))) = Bool.true]) := by kernel_rfl
theorem p6_9 (x0 : List (ByteArray × Int × Int × Int × Unit) × (Int × Int × Int × Int × Unit) × List (Int × Int × Int × Unit) × List (Int × Int × Int × Unit) × (Int × Int × Int × Unit) × (Int × Int × Int × Unit) × List (ByteArray × Int × Int × Unit) × (Int × Int × Int × Int × Unit) × List (ByteArray × Int × Int × Int × Unit) × List (Int × Int × Int × Unit) × List (ByteArray × Int × Int × Unit) × List (ByteArray × Int × Int × Unit) × Unit) (x1 : List (ByteArray × Int × Int × Int × Unit) × (Int × Int × Int × Int × Unit) × List (Int × Int × Int × Unit) × List (Int × Int × Int × Unit) × (Int × Int × Int × Unit) × (Int × Int × Int × Unit) × List (ByteArray × Int × Int × Unit) × (Int × Int × Int × Int × Unit) × List (ByteArray × Int × Int × Int × Unit) × List (Int × Int × Int × Unit) × List (ByteArray × Int × Int × Unit) × List (ByteArray × Int × Int × Unit) × Unit) : runF tab ext6 false 77 [] 2000 [] oks6 kds6 tys6 Try.f6.results [false, false, false, false, false, false, false, false, false, true] [.code b6] (entE 0 0 sig6 (x0, x1, ())) (entL sig6 (x0, x1, ())) = some ([Dyn.mk Ty.bool Bool.false], [], [True, (!g10_0 (Prod.fst x0) (Prod.fst x1)) = Bool.false, True, (!g11_0 (Prod.fst (Prod.snd x0)) (Prod.fst (Prod.snd x1))) = Bool.false, True, (!g12_0 (Prod.fst (Prod.snd (Prod.snd x0))) (Prod.fst (Prod.snd (Prod.snd x1)))) = Bool.false, True, (!g13_0 (Prod.fst (Prod.snd (Prod.snd (Prod.snd x0)))) (Prod.fst (Prod.snd (Prod.snd (Prod.snd x1))))) = Bool.false, True, (!g14_0 (Prod.fst (Prod.snd (Prod.snd (Prod.snd (Prod.snd x0))))) (Prod.fst (Prod.snd (Prod.snd (Prod.snd (Prod.snd x1)))))) = Bool.false, True, (!g15_0 (Prod.fst (Prod.snd (Prod.snd (Prod.snd (Prod.snd (Prod.snd x0)))))) (Prod.fst (Prod.snd (Prod.snd (Prod.snd (Prod.snd (Prod.snd x1))))))) = Bool.false, True, (!g16_0 (Prod.fst (Prod.snd (Prod.snd (Prod.snd (Prod.snd (Prod.snd (Prod.snd x0))))))) (Prod.fst (Prod.snd (Prod.snd (Prod.snd (Prod.snd (Prod.snd (Prod.snd x1)))))))) = Bool.false, True, (!g17_0 (Prod.fst (Prod.snd (Prod.snd (Prod.snd (Prod.snd (Prod.snd (Prod.snd (Prod.snd x0)))))))) (Prod.fst (Prod.snd (Prod.snd (Prod.snd (Prod.snd (Prod.snd (Prod.snd (Prod.snd x1))))))))) = Bool.false, True, (!g18_0 (Prod.fst (Prod.snd (Prod.snd (Prod.snd (Prod.snd (Prod.snd (Prod.snd (Prod.snd (Prod.snd x0))))))))) (Prod.fst (Prod.snd (Prod.snd (Prod.snd (Prod.snd (Prod.snd (Prod.snd (Prod.snd (Prod.snd x1)))))))))) = Bool.false, True, (!g19_0 (Prod.fst (Prod.snd (Prod.snd (Prod.snd (Prod.snd (Prod.snd (Prod.snd (Prod.snd (Prod.snd (Prod.snd x0)))))))))) (Prod.fst (Prod.snd (Prod.snd (Prod.snd (Prod.snd (Prod.snd (Prod.snd (Prod.snd (Prod.snd (Prod.snd x1))))))))))) = Bool.true]) := by kernel_rfl
theorem p6_10 (x0 : List (ByteArray × Int × Int × Int × Unit) × (Int × Int × Int × Int × Unit) × List (Int × Int × Int × Unit) × List (Int × Int × Int × Unit) × (Int × Int × Int × Unit) × (Int × Int × Int × Unit) × List (ByteArray × Int × Int × Unit) × (Int × Int × Int × Int × Unit) × List (ByteArray × Int × Int × Int × Unit) × List (Int × Int × Int × Unit) × List (ByteArray × Int × Int × Unit) × List (ByteArray × Int × Int × Unit) × Unit) (x1 : List (ByteArray × Int × Int × Int × Unit) × (Int × Int × Int × Int × Unit) × List (Int × Int × Int × Unit) × List (Int × Int × Int × Unit) × (Int × Int × Int × Unit) × (Int × Int × Int × Unit) × List (ByteArray × Int × Int × Unit) × (Int × Int × Int × Int × Unit) × List (ByteArray × Int × Int × Int × Unit) × List (Int × Int × Int × Unit) × List (ByteArray × Int × Int × Unit) × List (ByteArray × Int × Int × Unit) × Unit) : runF tab ext6 false 77 [] 2000 [] oks6 kds6 tys6 Try.f6.results [false, false, false, false, false, false, false, false, false, false, true] [.code b6] (entE 0 0 sig6 (x0, x1, ())) (entL sig6 (x0, x1, ())) = some ([Dyn.mk Ty.bool Bool.false], [], [True, (!g10_0 (Prod.fst x0) (Prod.fst x1)) = Bool.false, True, (!g11_0 (Prod.fst (Prod.snd x0)) (Prod.fst (Prod.snd x1))) = Bool.false, True, (!g12_0 (Prod.fst (Prod.snd (Prod.snd x0))) (Prod.fst (Prod.snd (Prod.snd x1)))) = Bool.false, True, (!g13_0 (Prod.fst (Prod.snd (Prod.snd (Prod.snd x0)))) (Prod.fst (Prod.snd (Prod.snd (Prod.snd x1))))) = Bool.false, True, (!g14_0 (Prod.fst (Prod.snd (Prod.snd (Prod.snd (Prod.snd x0))))) (Prod.fst (Prod.snd (Prod.snd (Prod.snd (Prod.snd x1)))))) = Bool.false, True, (!g15_0 (Prod.fst (Prod.snd (Prod.snd (Prod.snd (Prod.snd (Prod.snd x0)))))) (Prod.fst (Prod.snd (Prod.snd (Prod.snd (Prod.snd (Prod.snd x1))))))) = Bool.false, True, (!g16_0 (Prod.fst (Prod.snd (Prod.snd (Prod.snd (Prod.snd (Prod.snd (Prod.snd x0))))))) (Prod.fst (Prod.snd (Prod.snd (Prod.snd (Prod.snd (Prod.snd (Prod.snd x1)))))))) = Bool.false, True, (!g17_0 (Prod.fst (Prod.snd (Prod.snd (Prod.snd (Prod.snd (Prod.snd (Prod.snd (Prod.snd x0)))))))) (Prod.fst (Prod.snd (Prod.snd (Prod.snd (Prod.snd (Prod.snd (Prod.snd (Prod.snd x1))))))))) = Bool.false, True, (!g18_0 (Prod.fst (Prod.snd (Prod.snd (Prod.snd (Prod.snd (Prod.snd (Prod.snd (Prod.snd (Prod.snd x0))))))))) (Prod.fst (Prod.snd (Prod.snd (Prod.snd (Prod.snd (Prod.snd (Prod.snd (Prod.snd (Prod.snd x1)))))))))) = Bool.false, True, (!g19_0 (Prod.fst (Prod.snd (Prod.snd (Prod.snd (Prod.snd (Prod.snd (Prod.snd (Prod.snd (Prod.snd (Prod.snd x0)))))))))) (Prod.fst (Prod.snd (Prod.snd (Prod.snd (Prod.snd (Prod.snd (Prod.snd (Prod.snd (Prod.snd (Prod.snd x1))))))))))) = Bool.false, True, (!g20_0 (Prod.fst (Prod.snd (Prod.snd (Prod.snd (Prod.snd (Prod.snd (Prod.snd (Prod.snd (Prod.snd (Prod.snd (Prod.snd x0))))))))))) (Prod.fst (Prod.snd (Prod.snd (Prod.snd (Prod.snd (Prod.snd (Prod.snd (Prod.snd (Prod.snd (Prod.snd (Prod.snd x1)))))))))))) = Bool.true]) := by kernel_rfl
theorem p6_11 (x0 : List (ByteArray × Int × Int × Int × Unit) × (Int × Int × Int × Int × Unit) × List (Int × Int × Int × Unit) × List (Int × Int × Int × Unit) × (Int × Int × Int × Unit) × (Int × Int × Int × Unit) × List (ByteArray × Int × Int × Unit) × (Int × Int × Int × Int × Unit) × List (ByteArray × Int × Int × Int × Unit) × List (Int × Int × Int × Unit) × List (ByteArray × Int × Int × Unit) × List (ByteArray × Int × Int × Unit) × Unit) (x1 : List (ByteArray × Int × Int × Int × Unit) × (Int × Int × Int × Int × Unit) × List (Int × Int × Int × Unit) × List (Int × Int × Int × Unit) × (Int × Int × Int × Unit) × (Int × Int × Int × Unit) × List (ByteArray × Int × Int × Unit) × (Int × Int × Int × Int × Unit) × List (ByteArray × Int × Int × Int × Unit) × List (Int × Int × Int × Unit) × List (ByteArray × Int × Int × Unit) × List (ByteArray × Int × Int × Unit) × Unit) : runF tab ext6 false 77 [] 2000 [] oks6 kds6 tys6 Try.f6.results [false, false, false, false, false, false, false, false, false, false, false, true] [.code b6] (entE 0 0 sig6 (x0, x1, ())) (entL sig6 (x0, x1, ())) = some ([Dyn.mk Ty.bool Bool.false], [], [True, (!g10_0 (Prod.fst x0) (Prod.fst x1)) = Bool.false, True, (!g11_0 (Prod.fst (Prod.snd x0)) (Prod.fst (Prod.snd x1))) = Bool.false, True, (!g12_0 (Prod.fst (Prod.snd (Prod.snd x0))) (Prod.fst (Prod.snd (Prod.snd x1)))) = Bool.false, True, (!g13_0 (Prod.fst (Prod.snd (Prod.snd (Prod.snd x0)))) (Prod.fst (Prod.snd (Prod.snd (Prod.snd x1))))) = Bool.false, True, (!g14_0 (Prod.fst (Prod.snd (Prod.snd (Prod.snd (Prod.snd x0))))) (Prod.fst (Prod.snd (Prod.snd (Prod.snd (Prod.snd x1)))))) = Bool.false, True, (!g15_0 (Prod.fst (Prod.snd (Prod.snd (Prod.snd (Prod.snd (Prod.snd x0)))))) (Prod.fst (Prod.snd (Prod.snd (Prod.snd (Prod.snd (Prod.snd x1))))))) = Bool.false, True, (!g16_0 (Prod.fst (Prod.snd (Prod.snd (Prod.snd (Prod.snd (Prod.snd (Prod.snd x0))))))) (Prod.fst (Prod.snd (Prod.snd (Prod.snd (Prod.snd (Prod.snd (Prod.snd x1)))))))) = Bool.false, True, (!g17_0 (Prod.fst (Prod.snd (Prod.snd (Prod.snd (Prod.snd (Prod.snd (Prod.snd (Prod.snd x0)))))))) (Prod.fst (Prod.snd (Prod.snd (Prod.snd (Prod.snd (Prod.snd (Prod.snd (Prod.snd x1))))))))) = Bool.false, True, (!g18_0 (Prod.fst (Prod.snd (Prod.snd (Prod.snd (Prod.snd (Prod.snd (Prod.snd (Prod.snd (Prod.snd x0))))))))) (Prod.fst (Prod.snd (Prod.snd (Prod.snd (Prod.snd (Prod.snd (Prod.snd (Prod.snd (Prod.snd x1)))))))))) = Bool.false, True, (!g19_0 (Prod.fst (Prod.snd (Prod.snd (Prod.snd (Prod.snd (Prod.snd (Prod.snd (Prod.snd (Prod.snd (Prod.snd x0)))))))))) (Prod.fst (Prod.snd (Prod.snd (Prod.snd (Prod.snd (Prod.snd (Prod.snd (Prod.snd (Prod.snd (Prod.snd x1))))))))))) = Bool.false, True, (!g20_0 (Prod.fst (Prod.snd (Prod.snd (Prod.snd (Prod.snd (Prod.snd (Prod.snd (Prod.snd (Prod.snd (Prod.snd (Prod.snd x0))))))))))) (Prod.fst (Prod.snd (Prod.snd (Prod.snd (Prod.snd (Prod.snd (Prod.snd (Prod.snd (Prod.snd (Prod.snd (Prod.snd x1)))))))))))) = Bool.false, True, (!g21_0 (Prod.fst (Prod.snd (Prod.snd (Prod.snd (Prod.snd (Prod.snd (Prod.snd (Prod.snd (Prod.snd (Prod.snd (Prod.snd (Prod.snd x0)))))))))))) (Prod.fst (Prod.snd (Prod.snd (Prod.snd (Prod.snd (Prod.snd (Prod.snd (Prod.snd (Prod.snd (Prod.snd (Prod.snd (Prod.snd x1))))))))))))) = Bool.true]) := by kernel_rfl
theorem p6_12 (x0 : List (ByteArray × Int × Int × Int × Unit) × (Int × Int × Int × Int × Unit) × List (Int × Int × Int × Unit) × List (Int × Int × Int × Unit) × (Int × Int × Int × Unit) × (Int × Int × Int × Unit) × List (ByteArray × Int × Int × Unit) × (Int × Int × Int × Int × Unit) × List (ByteArray × Int × Int × Int × Unit) × List (Int × Int × Int × Unit) × List (ByteArray × Int × Int × Unit) × List (ByteArray × Int × Int × Unit) × Unit) (x1 : List (ByteArray × Int × Int × Int × Unit) × (Int × Int × Int × Int × Unit) × List (Int × Int × Int × Unit) × List (Int × Int × Int × Unit) × (Int × Int × Int × Unit) × (Int × Int × Int × Unit) × List (ByteArray × Int × Int × Unit) × (Int × Int × Int × Int × Unit) × List (ByteArray × Int × Int × Int × Unit) × List (Int × Int × Int × Unit) × List (ByteArray × Int × Int × Unit) × List (ByteArray × Int × Int × Unit) × Unit) : runF tab ext6 false 77 [] 2000 [] oks6 kds6 tys6 Try.f6.results [false, false, false, false, false, false, false, false, false, false, false, false] [.code b6] (entE 0 0 sig6 (x0, x1, ())) (entL sig6 (x0, x1, ())) = some ([Dyn.mk Ty.bool Bool.true], [], [True, (!g10_0 (Prod.fst x0) (Prod.fst x1)) = Bool.false, True, (!g11_0 (Prod.fst (Prod.snd x0)) (Prod.fst (Prod.snd x1))) = Bool.false, True, (!g12_0 (Prod.fst (Prod.snd (Prod.snd x0))) (Prod.fst (Prod.snd (Prod.snd x1)))) = Bool.false, True, (!g13_0 (Prod.fst (Prod.snd (Prod.snd (Prod.snd x0)))) (Prod.fst (Prod.snd (Prod.snd (Prod.snd x1))))) = Bool.false, True, (!g14_0 (Prod.fst (Prod.snd (Prod.snd (Prod.snd (Prod.snd x0))))) (Prod.fst (Prod.snd (Prod.snd (Prod.snd (Prod.snd x1)))))) = Bool.false, True, (!g15_0 (Prod.fst (Prod.snd (Prod.snd (Prod.snd (Prod.snd (Prod.snd x0)))))) (Prod.fst (Prod.snd (Prod.snd (Prod.snd (Prod.snd (Prod.snd x1))))))) = Bool.false, True, (!g16_0 (Prod.fst (Prod.snd (Prod.snd (Prod.snd (Prod.snd (Prod.snd (Prod.snd x0))))))) (Prod.fst (Prod.snd (Prod.snd (Prod.snd (Prod.snd (Prod.snd (Prod.snd x1)))))))) = Bool.false, True, (!g17_0 (Prod.fst (Prod.snd (Prod.snd (Prod.snd (Prod.snd (Prod.snd (Prod.snd (Prod.snd x0)))))))) (Prod.fst (Prod.snd (Prod.snd (Prod.snd (Prod.snd (Prod.snd (Prod.snd (Prod.snd x1))))))))) = Bool.false, True, (!g18_0 (Prod.fst (Prod.snd (Prod.snd (Prod.snd (Prod.snd (Prod.snd (Prod.snd (Prod.snd (Prod.snd x0))))))))) (Prod.fst (Prod.snd (Prod.snd (Prod.snd (Prod.snd (Prod.snd (Prod.snd (Prod.snd (Prod.snd x1)))))))))) = Bool.false, True, (!g19_0 (Prod.fst (Prod.snd (Prod.snd (Prod.snd (Prod.snd (Prod.snd (Prod.snd (Prod.snd (Prod.snd (Prod.snd x0)))))))))) (Prod.fst (Prod.snd (Prod.snd (Prod.snd (Prod.snd (Prod.snd (Prod.snd (Prod.snd (Prod.snd (Prod.snd x1))))))))))) = Bool.false, True, (!g20_0 (Prod.fst (Prod.snd (Prod.snd (Prod.snd (Prod.snd (Prod.snd (Prod.snd (Prod.snd (Prod.snd (Prod.snd (Prod.snd x0))))))))))) (Prod.fst (Prod.snd (Prod.snd (Prod.snd (Prod.snd (Prod.snd (Prod.snd (Prod.snd (Prod.snd (Prod.snd (Prod.snd x1)))))))))))) = Bool.false, True, (!g21_0 (Prod.fst (Prod.snd (Prod.snd (Prod.snd (Prod.snd (Prod.snd (Prod.snd (Prod.snd (Prod.snd (Prod.snd (Prod.snd (Prod.snd x0)))))))))))) (Prod.fst (Prod.snd (Prod.snd (Prod.snd (Prod.snd (Prod.snd (Prod.snd (Prod.snd (Prod.snd (Prod.snd (Prod.snd (Prod.snd x1))))))))))))) = Bool.false]) := by kernel_rfl
theorem at6 (x0 : List (ByteArray × Int × Int × Int × Unit) × (Int × Int × Int × Int × Unit) × List (Int × Int × Int × Unit) × List (Int × Int × Int × Unit) × (Int × Int × Int × Unit) × (Int × Int × Int × Unit) × List (ByteArray × Int × Int × Unit) × (Int × Int × Int × Int × Unit) × List (ByteArray × Int × Int × Int × Unit) × List (Int × Int × Int × Unit) × List (ByteArray × Int × Int × Unit) × List (ByteArray × Int × Int × Unit) × Unit) (x1 : List (ByteArray × Int × Int × Int × Unit) × (Int × Int × Int × Int × Unit) × List (Int × Int × Int × Unit) × List (Int × Int × Int × Unit) × (Int × Int × Int × Unit) × (Int × Int × Int × Unit) × List (ByteArray × Int × Int × Unit) × (Int × Int × Int × Int × Unit) × List (ByteArray × Int × Int × Int × Unit) × List (Int × Int × Int × Unit) × List (ByteArray × Int × Int × Unit) × List (ByteArray × Int × Int × Unit) × Unit) (h : P6 x0 x1) (K : Ctx) (q : Nat → Value) : AtV Try.prog 6 (PostR kds6 oks6 [⟨Ty.bool, g6_0 x0 x1⟩] [] [] q K) 77 K q [] [.code b6] (entE 0 0 sig6 (x0, x1, ())) (entL sig6 (x0, x1, ())) := by
  unfold P6 at h
  unfold g6_0
  by_cases b0 : (!g10_0 (Prod.fst x0) (Prod.fst x1)) = true
  · try simp only [if_pos b0] at h ⊢
    exact AtV.fin Try.func6 tabOk ext6Ok mixed (p6_0 x0 x1) ⟨trivial, b0, trivial⟩
  · try simp only [if_neg b0] at h ⊢
    replace b0 := Bool.eq_false_iff.2 b0
    by_cases b1 : (!g11_0 (Prod.fst (Prod.snd x0)) (Prod.fst (Prod.snd x1))) = true
    · try simp only [if_pos b1] at h ⊢
      exact AtV.fin Try.func6 tabOk ext6Ok mixed (p6_1 x0 x1) ⟨trivial, b0, trivial, b1, trivial⟩
    · try simp only [if_neg b1] at h ⊢
      replace b1 := Bool.eq_false_iff.2 b1
      by_cases b2 : (!g12_0 (Prod.fst (Prod.snd (Prod.snd x0))) (Prod.fst (Prod.snd (Prod.snd x1)))) = true
      · try simp only [if_pos b2] at h ⊢
        exact AtV.fin Try.func6 tabOk ext6Ok mixed (p6_2 x0 x1) ⟨trivial, b0, trivial, b1, trivial, b2, trivial⟩
      · try simp only [if_neg b2] at h ⊢
        replace b2 := Bool.eq_false_iff.2 b2
        by_cases b3 : (!g13_0 (Prod.fst (Prod.snd (Prod.snd (Prod.snd x0)))) (Prod.fst (Prod.snd (Prod.snd (Prod.snd x1))))) = true
        · try simp only [if_pos b3] at h ⊢
          exact AtV.fin Try.func6 tabOk ext6Ok mixed (p6_3 x0 x1) ⟨trivial, b0, trivial, b1, trivial, b2, trivial, b3, trivial⟩
        · try simp only [if_neg b3] at h ⊢
          replace b3 := Bool.eq_false_iff.2 b3
          by_cases b4 : (!g14_0 (Prod.fst (Prod.snd (Prod.snd (Prod.snd (Prod.snd x0))))) (Prod.fst (Prod.snd (Prod.snd (Prod.snd (Prod.snd x1)))))) = true
          · try simp only [if_pos b4] at h ⊢
            exact AtV.fin Try.func6 tabOk ext6Ok mixed (p6_4 x0 x1) ⟨trivial, b0, trivial, b1, trivial, b2, trivial, b3, trivial, b4, trivial⟩
          · try simp only [if_neg b4] at h ⊢
            replace b4 := Bool.eq_false_iff.2 b4
            by_cases b5 : (!g15_0 (Prod.fst (Prod.snd (Prod.snd (Prod.snd (Prod.snd (Prod.snd x0)))))) (Prod.fst (Prod.snd (Prod.snd (Prod.snd (Prod.snd (Prod.snd x1))))))) = true
            · try simp only [if_pos b5] at h ⊢
              exact AtV.fin Try.func6 tabOk ext6Ok mixed (p6_5 x0 x1) ⟨trivial, b0, trivial, b1, trivial, b2, trivial, b3, trivial, b4, trivial, b5, trivial⟩
            · try simp only [if_neg b5] at h ⊢
              replace b5 := Bool.eq_false_iff.2 b5
              by_cases b6 : (!g16_0 (Prod.fst (Prod.snd (Prod.snd (Prod.snd (Prod.snd (Prod.snd (Prod.snd x0))))))) (Prod.fst (Prod.snd (Prod.snd (Prod.snd (Prod.snd (Prod.snd (Prod.snd x1)))))))) = true
              · try simp only [if_pos b6] at h ⊢
                exact AtV.fin Try.func6 tabOk ext6Ok mixed (p6_6 x0 x1) ⟨trivial, b0, trivial, b1, trivial, b2, trivial, b3, trivial, b4, trivial, b5, trivial, b6, trivial⟩
              · try simp only [if_neg b6] at h ⊢
                replace b6 := Bool.eq_false_iff.2 b6
                by_cases b7 : (!g17_0 (Prod.fst (Prod.snd (Prod.snd (Prod.snd (Prod.snd (Prod.snd (Prod.snd (Prod.snd x0)))))))) (Prod.fst (Prod.snd (Prod.snd (Prod.snd (Prod.snd (Prod.snd (Prod.snd (Prod.snd x1))))))))) = true
                · try simp only [if_pos b7] at h ⊢
                  exact AtV.fin Try.func6 tabOk ext6Ok mixed (p6_7 x0 x1) ⟨trivial, b0, trivial, b1, trivial, b2, trivial, b3, trivial, b4, trivial, b5, trivial, b6, trivial, b7, trivial⟩
                · try simp only [if_neg b7] at h ⊢
                  replace b7 := Bool.eq_false_iff.2 b7
                  by_cases b8 : (!g18_0 (Prod.fst (Prod.snd (Prod.snd (Prod.snd (Prod.snd (Prod.snd (Prod.snd (Prod.snd (Prod.snd x0))))))))) (Prod.fst (Prod.snd (Prod.snd (Prod.snd (Prod.snd (Prod.snd (Prod.snd (Prod.snd (Prod.snd x1)))))))))) = true
                  · try simp only [if_pos b8] at h ⊢
                    exact AtV.fin Try.func6 tabOk ext6Ok mixed (p6_8 x0 x1) ⟨trivial, b0, trivial, b1, trivial, b2, trivial, b3, trivial, b4, trivial, b5, trivial, b6, trivial, b7, trivial, b8, trivial⟩
                  · try simp only [if_neg b8] at h ⊢
                    replace b8 := Bool.eq_false_iff.2 b8
                    by_cases b9 : (!g19_0 (Prod.fst (Prod.snd (Prod.snd (Prod.snd (Prod.snd (Prod.snd (Prod.snd (Prod.snd (Prod.snd (Prod.snd x0)))))))))) (Prod.fst (Prod.snd (Prod.snd (Prod.snd (Prod.snd (Prod.snd (Prod.snd (Prod.snd (Prod.snd (Prod.snd x1))))))))))) = true
                    · try simp only [if_pos b9] at h ⊢
                      exact AtV.fin Try.func6 tabOk ext6Ok mixed (p6_9 x0 x1) ⟨trivial, b0, trivial, b1, trivial, b2, trivial, b3, trivial, b4, trivial, b5, trivial, b6, trivial, b7, trivial, b8, trivial, b9, trivial⟩
                    · try simp only [if_neg b9] at h ⊢
                      replace b9 := Bool.eq_false_iff.2 b9
                      by_cases b10 : (!g20_0 (Prod.fst (Prod.snd (Prod.snd (Prod.snd (Prod.snd (Prod.snd (Prod.snd (Prod.snd (Prod.snd (Prod.snd (Prod.snd x0))))))))))) (Prod.fst (Prod.snd (Prod.snd (Prod.snd (Prod.snd (Prod.snd (Prod.snd (Prod.snd (Prod.snd (Prod.snd (Prod.snd x1)))))))))))) = true
                      · try simp only [if_pos b10] at h ⊢
                        exact AtV.fin Try.func6 tabOk ext6Ok mixed (p6_10 x0 x1) ⟨trivial, b0, trivial, b1, trivial, b2, trivial, b3, trivial, b4, trivial, b5, trivial, b6, trivial, b7, trivial, b8, trivial, b9, trivial, b10, trivial⟩
                      · try simp only [if_neg b10] at h ⊢
                        replace b10 := Bool.eq_false_iff.2 b10
                        by_cases b11 : (!g21_0 (Prod.fst (Prod.snd (Prod.snd (Prod.snd (Prod.snd (Prod.snd (Prod.snd (Prod.snd (Prod.snd (Prod.snd (Prod.snd (Prod.snd x0)))))))))))) (Prod.fst (Prod.snd (Prod.snd (Prod.snd (Prod.snd (Prod.snd (Prod.snd (Prod.snd (Prod.snd (Prod.snd (Prod.snd (Prod.snd x1))))))))))))) = true
                        · try simp only [if_pos b11] at h ⊢
                          exact AtV.fin Try.func6 tabOk ext6Ok mixed (p6_11 x0 x1) ⟨trivial, b0, trivial, b1, trivial, b2, trivial, b3, trivial, b4, trivial, b5, trivial, b6, trivial, b7, trivial, b8, trivial, b9, trivial, b10, trivial, b11, trivial⟩
                        · try simp only [if_neg b11] at h ⊢
                          replace b11 := Bool.eq_false_iff.2 b11
                          exact AtV.fin Try.func6 tabOk ext6Ok mixed (p6_12 x0 x1) ⟨trivial, b0, trivial, b1, trivial, b2, trivial, b3, trivial, b4, trivial, b5, trivial, b6, trivial, b7, trivial, b8, trivial, b9, trivial, b10, trivial, b11, trivial⟩

def S6 : Am.Spec := { sig := sig6, pre := fun ⟨x0, x1, _⟩ => P6 x0 x1, res := fun ⟨x0, x1, _⟩ => [⟨Ty.bool, g6_0 x0 x1⟩], kds := kds6 }
theorem con6 : Contract Try.prog 6 S6 := contract_of Try.func6 hb6 (Nat.le_of_ble_eq_true (by kernel_rfl)) (fun ⟨x0, x1, _⟩ h _ K q => at6 x0 x1 h K q)


end Go.Proofs.Ytleifkpekoinlaa
