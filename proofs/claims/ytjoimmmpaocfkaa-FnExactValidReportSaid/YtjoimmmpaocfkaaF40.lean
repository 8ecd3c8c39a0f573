/- Function 40 (spec.l30Ok): its runs between cut points. Written by a program of this repo (gen). -/
import Derived.Test.YtjoimmmpaocfkaaT
import Derived.Test.YtjoimmmpaocfkaaF55
set_option linter.unusedVariables false
set_option linter.unusedSimpArgs false
set_option maxRecDepth 100000
namespace Go.Proofs.Ytjoimmmpaocfkaa
open Go Go.Am Go.Proofs
def ext40 : Ext := [(55, S55)]
theorem call40_55 : Callable Try.prog 55 := ⟨Try.f55, Try.func55, by kernel_rfl, by kernel_rfl⟩
theorem ext40Ok : ExtOk Try.prog ext40 := ⟨⟨call40_55, con55⟩, trivial⟩
/-! Function 40. -/
noncomputable def b40 : Code := bodyOf Try.f40
theorem hb40 : Try.f40.body = some b40 := by kernel_rfl
def sig40 : List AT := [AT.v (Ty.sl Ty.str)]
def tys40 : List Ty := [Ty.bool]
def E40_2 (v3 : Int) (x0 : List ByteArray) : Env := [(0, PV.a (Atom.sl Ty.str x0)), (3, PV.a (Atom.val (Value.int IntKind.i64 v3)))]
def L40_2 (v3 : Int) (x0 : List ByteArray) : Heap := []
mutual
def R40 : Nat → List ByteArray → List Dyn → Prop
  | 0, _, _ => False
  | n + 1, x0, ds => (R40_2 n (0) (x0) ds)
def R40_2 : Nat → Int → List ByteArray → List Dyn → Prop
  | 0, _, _, _ => False
  | n + 1, v3, x0, ds => (if (Decidable.decide (v3 < (↑(List.length x0) : Int))) = true then ((0 ≤ v3) ∧ (v3 < (↑(List.length x0) : Int)) ∧ (if (!g55_0 (List.getD x0 (Int.toNat v3) ByteArray.empty)) = true then (ds = [Dyn.mk Ty.bool Bool.false]) else ((InR IntKind.i64 (v3 + 1)) ∧ (R40_2 n (v3 + 1) (x0) ds)))) else (ds = [Dyn.mk Ty.bool (Decidable.decide ((↑(List.length x0) : Int) ≤ 200))]))
end
theorem p40_0 (x0 : List ByteArray) : Am.runN tab ext40 false 19 [] 2000 [] [] [0, 3] [] [] [.code b40] (entE 0 0 sig40 (x0, ())) (entL sig40 (x0, ())) = some (cutAt b40 2, E40_2 (0) (x0), L40_2 (0) (x0), []) := by kernel_rfl
theorem p40_1 (v3 : Int) (x0 : List ByteArray) : runF tab ext40 false 19 [] 2000 [] tys40 Try.f40.results [true, true] (cutAt b40 2) (E40_2 v3 x0) (L40_2 v3 x0) = some ([Dyn.mk Ty.bool Bool.false], [], [Decidable.decide (v3 < (↑(List.length x0) : Int)) = Bool.true, 0 ≤ v3, v3 < (↑(List.length x0) : Int), True, (!g55_0 (List.getD x0 (Int.toNat v3) ByteArray.empty)) = Bool.true]) := by kernel_rfl
theorem p40_2 (v3 : Int) (x0 : List ByteArray) : Am.runN tab ext40 false 19 [] 2000 [] [] [0, 3] [] [true, false] (cutAt b40 2) (E40_2 v3 x0) (L40_2 v3 x0) = some (cutAt b40 2, E40_2 (v3 + 1) (x0), L40_2 (v3 + 1) (x0), [Decidable.decide (v3 < (↑(List.length x0) : Int)) = Bool.true, 0 ≤ v3, v3 < (↑(List.length x0) : Int), True, (!g55_0 (List.getD x0 (Int.toNat v3) ByteArray.empty)) = Bool.false, InR IntKind.i64 (v3 + 1)]) := by kernel_rfl
theorem p40_3 (v3 : Int) (x0 : List ByteArray) : runF tab ext40 false 19 [] 2000 [] tys40 Try.f40.results [false] (cutAt b40 2) (E40_2 v3 x0) (L40_2 v3 x0) = some ([Dyn.mk Ty.bool (Decidable.decide ((↑(List.length x0) : Int) ≤ 200))], [], [Decidable.decide (v3 < (↑(List.length x0) : Int)) = Bool.false]) := by kernel_rfl
theorem snd40 : ∀ n, (∀ (x0 : List ByteArray) ds, R40 n x0 ds → ∀ w0 O q, AtV Try.prog 40 (PostR ds [] [] q w0 O) 19 w0 O q [] [.code b40] (entE 0 0 sig40 (x0, ())) (entL sig40 (x0, ()))) ∧ (∀ (v3 : Int) (x0 : List ByteArray) ds, R40_2 n v3 x0 ds → ∀ w0 O q, AtV Try.prog 40 (PostR ds [] [] q w0 O) 19 w0 O q [] (cutAt b40 2) (E40_2 v3 x0) (L40_2 v3 x0)) := by
  intro n
  induction n with
  | zero => exact ⟨fun _ _ h => by simp only [R40] at h, fun _ _ _ h => by simp only [R40_2] at h⟩
  | succ n ih =>
  obtain ⟨ih, ih2⟩ := ih
  refine ⟨?_, ?_⟩
  · intro x0 ds h w0 O q
    rw [R40] at h
    exact AtV.runN tabOk ext40Ok mixed (p40_0 x0) trivial (ih2 _ _ _ h w0 O q)

  · intro v3 x0 ds h w0 O q
    rw [R40_2] at h
    by_cases b0 : (Decidable.decide (v3 < (↑(List.length x0) : Int))) = true
    · rw [if_pos b0] at h
      obtain ⟨s0, s1, h⟩ := h
      by_cases b1 : (!g55_0 (List.getD x0 (Int.toNat v3) ByteArray.empty)) = true
      · rw [if_pos b1] at h
        subst h
        exact AtV.fin Try.func40 tabOk ext40Ok mixed (p40_1 v3 x0) ⟨b0, s0, s1, trivial, b1, trivial⟩
      · rw [if_neg b1] at h
        replace b1 := Bool.eq_false_iff.2 b1
        obtain ⟨s2, h⟩ := h
        exact AtV.runN tabOk ext40Ok mixed (p40_2 v3 x0) ⟨b0, s0, s1, trivial, b1, s2, trivial⟩ (ih2 _ _ _ h w0 O q)
    · rw [if_neg b0] at h
      replace b0 := Bool.eq_false_iff.2 b0
      subst h
      exact AtV.fin Try.func40 tabOk ext40Ok mixed (p40_3 v3 x0) ⟨b0, trivial⟩



def g40_0 (x0 : List ByteArray) : Bool := x0.all g55_0 && decide (x0.length ≤ 200)
def P40 (x0 : List ByteArray) : Prop := True

theorem top40 (x0 : List ByteArray) (hw : Wf (.sl .str) x0) : R40 (x0.length + 1 + 1) x0 [⟨.bool, g40_0 x0⟩] := by
  rw [R40]
  have key := loop_test x0 ByteArray.empty g55_0 [(⟨.bool, false⟩ : Dyn)] [⟨.bool, decide (x0.length ≤ 200)⟩] (fun n i ds => R40_2 n i x0 ds) (fun n => ?_) (fun n i hi hok ds hr => ?_) (fun n i hi hok => ?_)
  · unfold g40_0
    cases h : x0.all g55_0 <;> rw [h] at key <;> simpa using key
  · rw [R40_2, if_neg (by simp)]
    simp only [Dyn.mk.injEq, heq_eq_eq, true_and, List.cons.injEq, and_true]
    congr 1
    exact propext ⟨fun h => by omega, fun h => by omega⟩
  · rw [R40_2, if_pos (by simp; omega)]
    simp only [Int.toNat_natCast]
    refine ⟨by omega, by omega, ?_⟩
    rw [if_neg (by rw [hok]; simp)]
    exact ⟨inR_up hw.1 hi, hr⟩
  · rw [R40_2, if_pos (by simp; omega)]
    simp only [Int.toNat_natCast]
    refine ⟨by omega, by omega, ?_⟩
    rw [if_pos (by rw [hok]; simp)] <;> trivial

def S40 : Am.Spec := { sig := sig40, pre := fun ⟨x0, _⟩ => P40 x0, res := fun ⟨x0, _⟩ => [⟨Ty.bool, g40_0 x0⟩] }
theorem con40 : Contract Try.prog 40 S40 := contract_of Try.func40 hb40 (Nat.le_of_ble_eq_true (by kernel_rfl)) (fun ⟨x0, _⟩ h hwf w0 O q =>
  (snd40 _).1 x0 _ (top40 x0 hwf.1) w0 O q)

end Go.Proofs.Ytjoimmmpaocfkaa
