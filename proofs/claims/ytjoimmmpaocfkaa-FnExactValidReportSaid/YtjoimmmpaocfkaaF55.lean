/- Function 55 (spec.l30Line): its runs between cut points. Written by a program of this repo (gen). -/
import Derived.Test.YtjoimmmpaocfkaaT
set_option linter.unusedVariables false
set_option linter.unusedSimpArgs false
set_option maxRecDepth 100000
namespace Go.Proofs.Ytjoimmmpaocfkaa
open Go Go.Am Go.Proofs
def ext55 : Ext := []
theorem ext55Ok : ExtOk Try.prog ext55 := trivial
/-! Function 55. -/
noncomputable def b55 : Code := bodyOf Try.f55
theorem hb55 : Try.f55.body = some b55 := by kernel_rfl
def sig55 : List AT := [AT.v (Ty.str)]
def tys55 : List Ty := [Ty.bool]
def E55_2 (v3 : Int) (x0 : ByteArray) : Env := [(0, PV.a (Atom.val (Value.string x0))), (3, PV.a (Atom.val (Value.int IntKind.i64 v3)))]
def L55_2 (v3 : Int) (x0 : ByteArray) : Heap := []
mutual
def R55 : Nat → ByteArray → List Dyn → Prop
  | 0, _, _ => False
  | n + 1, x0, ds => (R55_2 n (0) (x0) ds)
def R55_2 : Nat → Int → ByteArray → List Dyn → Prop
  | 0, _, _, _ => False
  | n + 1, v3, x0, ds => (if (Decidable.decide (v3 < (↑(ByteArray.size x0) : Int))) = true then ((0 ≤ v3) ∧ (v3 < (↑(ByteArray.size x0) : Int)) ∧ (if (Decidable.decide ((↑(UInt8.toNat (List.getD (Array.toList (ByteArray.data x0)) (Int.toNat v3) 0)) : Int) < 32)) = true then (ds = [Dyn.mk Ty.bool Bool.false]) else ((0 ≤ v3) ∧ (v3 < (↑(ByteArray.size x0) : Int)) ∧ (if (Decidable.decide ((↑(UInt8.toNat (List.getD (Array.toList (ByteArray.data x0)) (Int.toNat v3) 0)) : Int) > 126)) = true then (ds = [Dyn.mk Ty.bool Bool.false]) else ((InR IntKind.i64 (v3 + 1)) ∧ (R55_2 n (v3 + 1) (x0) ds)))))) else (ds = [Dyn.mk Ty.bool (Decidable.decide ((↑(ByteArray.size x0) : Int) ≤ 100))]))
end
theorem p55_0 (x0 : ByteArray) : Am.runN tab ext55 false 23 [] 2000 [] [] [0, 3] [] [] [.code b55] (entE 0 0 sig55 (x0, ())) (entL sig55 (x0, ())) = some (cutAt b55 2, E55_2 (0) (x0), L55_2 (0) (x0), []) := by kernel_rfl
theorem p55_1 (v3 : Int) (x0 : ByteArray) : runF tab ext55 false 23 [] 2000 [] tys55 Try.f55.results [true, true, true] (cutAt b55 2) (E55_2 v3 x0) (L55_2 v3 x0) = some ([Dyn.mk Ty.bool Bool.false], [], [Decidable.decide (v3 < (↑(ByteArray.size x0) : Int)) = Bool.true, 0 ≤ v3, v3 < (↑(ByteArray.size x0) : Int), Decidable.decide ((↑(UInt8.toNat (List.getD (Array.toList (ByteArray.data x0)) (Int.toNat v3) 0)) : Int) < 32) = Bool.true, Bool.true = Bool.true]) := by kernel_rfl
theorem p55_2 (v3 : Int) (x0 : ByteArray) : runF tab ext55 false 23 [] 2000 [] tys55 Try.f55.results [true, false, true] (cutAt b55 2) (E55_2 v3 x0) (L55_2 v3 x0) = some ([Dyn.mk Ty.bool Bool.false], [], [Decidable.decide (v3 < (↑(ByteArray.size x0) : Int)) = Bool.true, 0 ≤ v3, v3 < (↑(ByteArray.size x0) : Int), Decidable.decide ((↑(UInt8.toNat (List.getD (Array.toList (ByteArray.data x0)) (Int.toNat v3) 0)) : Int) < 32) = Bool.false, 0 ≤ v3, v3 < (↑(ByteArray.size x0) : Int), Decidable.decide ((↑(UInt8.toNat (List.getD (Array.toList (ByteArray.data x0)) (Int.toNat v3) 0)) : Int) > 126) = Bool.true]) := by kernel_rfl
theorem p55_3 (v3 : Int) (x0 : ByteArray) : Am.runN tab ext55 false 23 [] 2000 [] [] [0, 3] [] [true, false, false] (cutAt b55 2) (E55_2 v3 x0) (L55_2 v3 x0) = some (cutAt b55 2, E55_2 (v3 + 1) (x0), L55_2 (v3 + 1) (x0), [Decidable.decide (v3 < (↑(ByteArray.size x0) : Int)) = Bool.true, 0 ≤ v3, v3 < (↑(ByteArray.size x0) : Int), Decidable.decide ((↑(UInt8.toNat (List.getD (Array.toList (ByteArray.data x0)) (Int.toNat v3) 0)) : Int) < 32) = Bool.false, 0 ≤ v3, v3 < (↑(ByteArray.size x0) : Int), Decidable.decide ((↑(UInt8.toNat (List.getD (Array.toList (ByteArray.data x0)) (Int.toNat v3) 0)) : Int) > 126) = Bool.false, InR IntKind.i64 (v3 + 1)]) := by kernel_rfl
theorem p55_4 (v3 : Int) (x0 : ByteArray) : runF tab ext55 false 23 [] 2000 [] tys55 Try.f55.results [false] (cutAt b55 2) (E55_2 v3 x0) (L55_2 v3 x0) = some ([Dyn.mk Ty.bool (Decidable.decide ((↑(ByteArray.size x0) : Int) ≤ 100))], [], [Decidable.decide (v3 < (↑(ByteArray.size x0) : Int)) = Bool.false]) := by kernel_rfl
theorem snd55 : ∀ n, (∀ (x0 : ByteArray) ds, R55 n x0 ds → ∀ w0 O q, AtV Try.prog 55 (PostR ds [] [] q w0 O) 23 w0 O q [] [.code b55] (entE 0 0 sig55 (x0, ())) (entL sig55 (x0, ()))) ∧ (∀ (v3 : Int) (x0 : ByteArray) ds, R55_2 n v3 x0 ds → ∀ w0 O q, AtV Try.prog 55 (PostR ds [] [] q w0 O) 23 w0 O q [] (cutAt b55 2) (E55_2 v3 x0) (L55_2 v3 x0)) := by
  intro n
  induction n with
  | zero => exact ⟨fun _ _ h => by simp only [R55] at h, fun _ _ _ h => by simp only [R55_2] at h⟩
  | succ n ih =>
  obtain ⟨ih, ih2⟩ := ih
  refine ⟨?_, ?_⟩
  · intro x0 ds h w0 O q
    rw [R55] at h
    exact AtV.runN tabOk ext55Ok mixed (p55_0 x0) trivial (ih2 _ _ _ h w0 O q)

  · intro v3 x0 ds h w0 O q
    rw [R55_2] at h
    by_cases b0 : (Decidable.decide (v3 < (↑(ByteArray.size x0) : Int))) = true
    · rw [if_pos b0] at h
      obtain ⟨s0, s1, h⟩ := h
      by_cases b1 : (Decidable.decide ((↑(UInt8.toNat (List.getD (Array.toList (ByteArray.data x0)) (Int.toNat v3) 0)) : Int) < 32)) = true
      · rw [if_pos b1] at h
        subst h
        exact AtV.fin Try.func55 tabOk ext55Ok mixed (p55_1 v3 x0) ⟨b0, s0, s1, b1, rfl, trivial⟩
      · rw [if_neg b1] at h
        replace b1 := Bool.eq_false_iff.2 b1
        obtain ⟨s2, s3, h⟩ := h
        by_cases b2 : (Decidable.decide ((↑(UInt8.toNat (List.getD (Array.toList (ByteArray.data x0)) (Int.toNat v3) 0)) : Int) > 126)) = true
        · rw [if_pos b2] at h
          subst h
          exact AtV.fin Try.func55 tabOk ext55Ok mixed (p55_2 v3 x0) ⟨b0, s0, s1, b1, s2, s3, b2, trivial⟩
        · rw [if_neg b2] at h
          replace b2 := Bool.eq_false_iff.2 b2
          obtain ⟨s4, h⟩ := h
          exact AtV.runN tabOk ext55Ok mixed (p55_3 v3 x0) ⟨b0, s0, s1, b1, s2, s3, b2, s4, trivial⟩ (ih2 _ _ _ h w0 O q)
    · rw [if_neg b0] at h
      replace b0 := Bool.eq_false_iff.2 b0
      subst h
      exact AtV.fin Try.func55 tabOk ext55Ok mixed (p55_4 v3 x0) ⟨b0, trivial⟩



/-- A byte of a line. -/
def ok55 (b : Int) : Bool := decide (32 ≤ b) && decide (b ≤ 126)
def g55_0 (x0 : ByteArray) : Bool := (bytesOf x0).all ok55 && decide (x0.size ≤ 100)
def P55 (x0 : ByteArray) : Prop := True

theorem top55 (x0 : ByteArray) (hw : Wf .str x0) : R55 (x0.size + 1 + 1) x0 [⟨.bool, g55_0 x0⟩] := by
  have hl := bytesOf_length x0
  rw [R55]
  have key := loop_test (bytesOf x0) 0 ok55 [(⟨.bool, false⟩ : Dyn)] [⟨.bool, decide (x0.size ≤ 100)⟩] (fun n i ds => R55_2 n i x0 ds) (fun n => ?_) (fun n i hi hok ds hr => ?_) (fun n i hi hok => ?_)
  · rw [hl] at key
    unfold g55_0
    cases h : (bytesOf x0).all ok55 <;> rw [h] at key <;> simpa using key
  · show R55_2 (n + 1) ((bytesOf x0).length : Int) x0 _
    rw [R55_2, hl, if_neg (by simp)]
    simp only [Dyn.mk.injEq, heq_eq_eq, true_and, List.cons.injEq, and_true]
    congr 1
    exact propext ⟨fun h => by omega, fun h => by omega⟩
  · simp only [ok55, Bool.and_eq_true, decide_eq_true_eq] at hok
    rw [R55_2, if_pos (by simp; omega)]
    simp only [Int.toNat_natCast, byte_get]
    generalize (bytesOf x0).getD i 0 = c at *
    refine ⟨by omega, by omega, ?_⟩
    rw [if_neg (by simp only [decide_eq_true_eq]; omega)]
    refine ⟨by omega, by omega, ?_⟩
    rw [if_neg (by simp only [decide_eq_true_eq]; omega)]
    exact ⟨inR_up (xs := bytesOf x0) (by rw [hl]; exact hw) hi, hr⟩
  · simp only [ok55, Bool.and_eq_false_iff, decide_eq_false_iff_not] at hok
    rw [R55_2, if_pos (by simp; omega)]
    simp only [Int.toNat_natCast, byte_get]
    generalize (bytesOf x0).getD i 0 = c at *
    refine ⟨by omega, by omega, ?_⟩
    by_cases h1 : c < 32
    · rw [if_pos (by simpa using h1)] <;> trivial
    · rw [if_neg (by simpa using h1)]
      refine ⟨by omega, by omega, ?_⟩
      rw [if_pos (by simp only [decide_eq_true_eq]; omega)] <;> trivial

def S55 : Am.Spec := { sig := sig55, pre := fun ⟨x0, _⟩ => P55 x0, res := fun ⟨x0, _⟩ => [⟨Ty.bool, g55_0 x0⟩] }
theorem con55 : Contract Try.prog 55 S55 := contract_of Try.func55 hb55 (Nat.le_of_ble_eq_true (by kernel_rfl)) (fun ⟨x0, _⟩ h hwf w0 O q =>
  (snd55 _).1 x0 _ (top55 x0 hwf.1) w0 O q)

end Go.Proofs.Ytjoimmmpaocfkaa
