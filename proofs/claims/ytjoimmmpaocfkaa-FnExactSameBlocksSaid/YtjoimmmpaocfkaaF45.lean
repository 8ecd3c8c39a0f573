/- Function 45: its runs between cut points. Written by a program of this repo (gen). -/
import Derived.Test.YtjoimmmpaocfkaaT
set_option linter.unusedVariables false
set_option linter.unusedSimpArgs false
set_option maxRecDepth 100000
namespace Go.Proofs.Ytjoimmmpaocfkaa
open Go Go.Am Go.Proofs
def ext45 : Ext := []
theorem ext45Ok : ExtOk Try.prog ext45 := trivial
/-! Function 45. -/
noncomputable def b45 : Code := bodyOf Try.f45
theorem hb45 : Try.f45.body = some b45 := by kernel_rfl
def sig45 : List AT := [AT.v (.sl (.cons .str (.cons .str (.cons .str .unit)))),AT.v (.sl (.cons .str (.cons .str (.cons .str .unit))))]
def tys45 : List Ty := [.bool]
def E45_4 (v13 : Int) (x0 : List (ByteArray × ByteArray × ByteArray × Unit)) (x1 : List (ByteArray × ByteArray × ByteArray × Unit)) : Env := [(0, PV.a (Atom.sl (Ty.cons Ty.str (Ty.cons Ty.str (Ty.cons Ty.str Ty.unit))) x0)), (1, PV.a (Atom.sl (Ty.cons Ty.str (Ty.cons Ty.str (Ty.cons Ty.str Ty.unit))) x1)), (12, PV.a (Atom.val (Value.int IntKind.i64 (↑(List.length x0) : Int)))), (13, PV.a (Atom.val (Value.int IntKind.i64 v13)))]
def L45_4 (v13 : Int) (x0 : List (ByteArray × ByteArray × ByteArray × Unit)) (x1 : List (ByteArray × ByteArray × ByteArray × Unit)) : Heap := []
mutual
def R45 : Nat → List (ByteArray × ByteArray × ByteArray × Unit) → List (ByteArray × ByteArray × ByteArray × Unit) → List Dyn → Prop
  | 0, _, _, _ => False
  | n + 1, x0, x1, ds => (if ((↑(List.length x0) : Int) != (↑(List.length x1) : Int)) = true then (ds = [Dyn.mk Ty.bool Bool.false]) else (R45_4 n (0) (x0) (x1) ds))
def R45_4 : Nat → Int → List (ByteArray × ByteArray × ByteArray × Unit) → List (ByteArray × ByteArray × ByteArray × Unit) → List Dyn → Prop
  | 0, _, _, _, _ => False
  | n + 1, v13, x0, x1, ds => (if (Decidable.decide (v13 < (↑(List.length x0) : Int))) = true then ((0 ≤ v13) ∧ (v13 < (↑(List.length x0) : Int)) ∧ ((0 ≤ v13) ∧ (v13 < (↑(List.length x1) : Int)) ∧ (if (!eqD (Ty.cons Ty.str (Ty.cons Ty.str (Ty.cons Ty.str Ty.unit))) (List.getD x0 (Int.toNat v13) (ByteArray.empty, ByteArray.empty, ByteArray.empty, ())) (List.getD x1 (Int.toNat v13) (ByteArray.empty, ByteArray.empty, ByteArray.empty, ()))) = true then (ds = [Dyn.mk Ty.bool Bool.false]) else ((InR IntKind.i64 (v13 + 1)) ∧ (R45_4 n (v13 + 1) (x0) (x1) ds))))) else (ds = [Dyn.mk Ty.bool Bool.true]))
end
theorem p45_0 (x0 : List (ByteArray × ByteArray × ByteArray × Unit)) (x1 : List (ByteArray × ByteArray × ByteArray × Unit)) : runF tab ext45 false 26 [] 2000 tys45 Try.f45.results [true] [.code b45] (entE 0 sig45 (x0, x1, ())) [] = some ([Dyn.mk Ty.bool Bool.false], [((↑(List.length x0) : Int) != (↑(List.length x1) : Int)) = Bool.true]) := by kernel_rfl
theorem p45_1 (x0 : List (ByteArray × ByteArray × ByteArray × Unit)) (x1 : List (ByteArray × ByteArray × ByteArray × Unit)) : Am.runN tab ext45 false 26 [] 2000 [] [0, 1, 12, 13] [] [false] [.code b45] (entE 0 sig45 (x0, x1, ())) [] = some (cutAt b45 4, E45_4 (0) (x0) (x1), L45_4 (0) (x0) (x1), [((↑(List.length x0) : Int) != (↑(List.length x1) : Int)) = Bool.false]) := by kernel_rfl
theorem p45_2 (v13 : Int) (x0 : List (ByteArray × ByteArray × ByteArray × Unit)) (x1 : List (ByteArray × ByteArray × ByteArray × Unit)) : runF tab ext45 false 26 [] 2000 tys45 Try.f45.results [true, true] (cutAt b45 4) (E45_4 v13 x0 x1) (L45_4 v13 x0 x1) = some ([Dyn.mk Ty.bool Bool.false], [Decidable.decide (v13 < (↑(List.length x0) : Int)) = Bool.true, 0 ≤ v13, v13 < (↑(List.length x0) : Int), 0 ≤ v13, v13 < (↑(List.length x1) : Int), (!eqD (Ty.cons Ty.str (Ty.cons Ty.str (Ty.cons Ty.str Ty.unit))) (List.getD x0 (Int.toNat v13) (ByteArray.empty, ByteArray.empty, ByteArray.empty, ())) (List.getD x1 (Int.toNat v13) (ByteArray.empty, ByteArray.empty, ByteArray.empty, ()))) = Bool.true]) := by kernel_rfl
theorem p45_3 (v13 : Int) (x0 : List (ByteArray × ByteArray × ByteArray × Unit)) (x1 : List (ByteArray × ByteArray × ByteArray × Unit)) : Am.runN tab ext45 false 26 [] 2000 [] [0, 1, 12, 13] [] [true, false] (cutAt b45 4) (E45_4 v13 x0 x1) (L45_4 v13 x0 x1) = some (cutAt b45 4, E45_4 (v13 + 1) (x0) (x1), L45_4 (v13 + 1) (x0) (x1), [Decidable.decide (v13 < (↑(List.length x0) : Int)) = Bool.true, 0 ≤ v13, v13 < (↑(List.length x0) : Int), 0 ≤ v13, v13 < (↑(List.length x1) : Int), (!eqD (Ty.cons Ty.str (Ty.cons Ty.str (Ty.cons Ty.str Ty.unit))) (List.getD x0 (Int.toNat v13) (ByteArray.empty, ByteArray.empty, ByteArray.empty, ())) (List.getD x1 (Int.toNat v13) (ByteArray.empty, ByteArray.empty, ByteArray.empty, ()))) = Bool.false, InR IntKind.i64 (v13 + 1)]) := by kernel_rfl
theorem p45_4 (v13 : Int) (x0 : List (ByteArray × ByteArray × ByteArray × Unit)) (x1 : List (ByteArray × ByteArray × ByteArray × Unit)) : runF tab ext45 false 26 [] 2000 tys45 Try.f45.results [false] (cutAt b45 4) (E45_4 v13 x0 x1) (L45_4 v13 x0 x1) = some ([Dyn.mk Ty.bool Bool.true], [Decidable.decide (v13 < (↑(List.length x0) : Int)) = Bool.false]) := by kernel_rfl
theorem snd45 : ∀ n, (∀ (x0 : List (ByteArray × ByteArray × ByteArray × Unit)) (x1 : List (ByteArray × ByteArray × ByteArray × Unit)) ds, R45 n x0 x1 ds → ∀ w0, AtV Try.prog 45 (PostR ds w0) 26 w0 [] [.code b45] (entE 0 sig45 (x0, x1, ())) []) ∧ (∀ (v13 : Int) (x0 : List (ByteArray × ByteArray × ByteArray × Unit)) (x1 : List (ByteArray × ByteArray × ByteArray × Unit)) ds, R45_4 n v13 x0 x1 ds → ∀ w0, AtV Try.prog 45 (PostR ds w0) 26 w0 [] (cutAt b45 4) (E45_4 v13 x0 x1) (L45_4 v13 x0 x1)) := by
  intro n
  induction n with
  | zero => exact ⟨fun _ _ _ h => by simp only [R45] at h, fun _ _ _ _ h => by simp only [R45_4] at h⟩
  | succ n ih =>
  obtain ⟨ih, ih4⟩ := ih
  refine ⟨?_, ?_⟩
  · intro x0 x1 ds h w0
    rw [R45] at h
    by_cases b0 : ((↑(List.length x0) : Int) != (↑(List.length x1) : Int)) = true
    · rw [if_pos b0] at h
      subst h
      exact AtV.fin Try.func45 tabOk ext45Ok mixed (p45_0 x0 x1) ⟨b0, trivial⟩
    · rw [if_neg b0] at h
      replace b0 := Bool.eq_false_iff.2 b0
      exact AtV.runN tabOk ext45Ok mixed (p45_1 x0 x1) ⟨b0, trivial⟩ (ih4 _ _ _ _ h w0)

  · intro v13 x0 x1 ds h w0
    rw [R45_4] at h
    by_cases b0 : (Decidable.decide (v13 < (↑(List.length x0) : Int))) = true
    · rw [if_pos b0] at h
      obtain ⟨s0, s1, h⟩ := h
      obtain ⟨s2, s3, h⟩ := h
      by_cases b1 : (!eqD (Ty.cons Ty.str (Ty.cons Ty.str (Ty.cons Ty.str Ty.unit))) (List.getD x0 (Int.toNat v13) (ByteArray.empty, ByteArray.empty, ByteArray.empty, ())) (List.getD x1 (Int.toNat v13) (ByteArray.empty, ByteArray.empty, ByteArray.empty, ()))) = true
      · rw [if_pos b1] at h
        subst h
        exact AtV.fin Try.func45 tabOk ext45Ok mixed (p45_2 v13 x0 x1) ⟨b0, s0, s1, s2, s3, b1, trivial⟩
      · rw [if_neg b1] at h
        replace b1 := Bool.eq_false_iff.2 b1
        obtain ⟨s4, h⟩ := h
        exact AtV.runN tabOk ext45Ok mixed (p45_3 v13 x0 x1) ⟨b0, s0, s1, s2, s3, b1, s4, trivial⟩ (ih4 _ _ _ _ h w0)
    · rw [if_neg b0] at h
      replace b0 := Bool.eq_false_iff.2 b0
      subst h
      exact AtV.fin Try.func45 tabOk ext45Ok mixed (p45_4 v13 x0 x1) ⟨b0, trivial⟩



theorem eq45 (x0 x1 : List (ByteArray × ByteArray × ByteArray × Unit)) (hl : x0.length = x1.length) (hm : x0.length ≤ maxLen) : ∀ k i : Nat, i + k = x0.length → R45_4 (k + 1) (i : Int) x0 x1 [⟨.bool, decide (x0.drop i = x1.drop i)⟩] := by
  intro k
  induction k with
  | zero =>
    intro i hi
    have h1 : ¬ (i : Int) < (x0.length : Int) := by omega
    rw [R45_4, if_neg (by simpa using h1), drop_end x0 i (by omega), drop_end x1 i (by omega)]
    simp
  | succ k ih =>
    intro i hi
    have h1 : (i : Int) < (x0.length : Int) := by omega
    rw [R45_4, if_pos (by simpa using h1)]
    refine ⟨by omega, h1, by omega, by omega, ?_⟩
    simp only [Int.toNat_natCast]
    rw [drop_get x0 i (ByteArray.empty, ByteArray.empty, ByteArray.empty, ()) (by omega), drop_get x1 i (ByteArray.empty, ByteArray.empty, ByteArray.empty, ()) (by omega)]
    by_cases he : x0.getD i (ByteArray.empty, ByteArray.empty, ByteArray.empty, ()) = x1.getD i (ByteArray.empty, ByteArray.empty, ByteArray.empty, ())
    · have hd := (eqD_eq (t := Ty.cons Ty.str (Ty.cons Ty.str (Ty.cons Ty.str Ty.unit))) rfl).2 he
      rw [if_neg (by rw [hd]; simp)]
      refine ⟨inR_up hm (by omega), ?_⟩
      have := ih (i + 1) (by omega)
      simp only [he, List.cons.injEq, true_and]
      exact this
    · have hd : eqD (Ty.cons Ty.str (Ty.cons Ty.str (Ty.cons Ty.str Ty.unit))) (x0.getD i (ByteArray.empty, ByteArray.empty, ByteArray.empty, ())) (x1.getD i (ByteArray.empty, ByteArray.empty, ByteArray.empty, ())) = false :=
        Bool.eq_false_iff.2 fun h => he ((eqD_eq rfl).1 h)
      rw [if_pos (by rw [hd]; rfl)]
      simp only [he, List.cons.injEq, false_and, decide_false]

def g45_0 (x0 x1 : List (ByteArray × ByteArray × ByteArray × Unit)) : Bool := decide (x0 = x1)
def P45 (x0 x1 : List (ByteArray × ByteArray × ByteArray × Unit)) : Prop := True
def S45 : Am.Spec := { sig := sig45, pre := fun ⟨x0, x1, _⟩ => P45 x0 x1, res := fun ⟨x0, x1, _⟩ => [⟨Ty.bool, g45_0 x0 x1⟩] }
theorem con45 : Contract Try.prog 45 S45 := contract_of Try.func45 hb45 rfl (fun _ => rfl) (Nat.le_of_ble_eq_true (by kernel_rfl)) (fun ⟨x0, x1, _⟩ h hwf w0 => by
  refine (snd45 (x0.length + 2)).1 x0 x1 _ ?_ w0
  show R45 (x0.length + 1 + 1) x0 x1 [⟨Ty.bool, decide (x0 = x1)⟩]
  rw [R45]
  by_cases hl : x0.length = x1.length
  · rw [if_neg (by simp [hl])]
    have := eq45 x0 x1 hl hwf.1.1 x0.length 0 (by omega)
    simpa using this
  · rw [if_pos (by simp; omega)]
    have : x0 ≠ x1 := fun h => hl (by rw [h])
    simp [this])

end Go.Proofs.Ytjoimmmpaocfkaa
