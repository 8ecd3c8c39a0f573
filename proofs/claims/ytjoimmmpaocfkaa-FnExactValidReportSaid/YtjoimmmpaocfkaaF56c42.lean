/- Function 56 (slices.IndexFunc[[]string,string]): its runs between cut points. Written by a program of this repo (gen). -/
import Derived.Test.YtjoimmmpaocfkaaT
import Derived.Test.YtjoimmmpaocfkaaF42
set_option linter.unusedVariables false
set_option linter.unusedSimpArgs false
set_option maxRecDepth 100000
namespace Go.Proofs.Ytjoimmmpaocfkaa
open Go Go.Am Go.Proofs
def ext56c42 : Ext := [(42, S42)]
theorem call56c42_42 : Callable Try.prog 42 := ⟨Try.f42, Try.func42, by kernel_rfl, by kernel_rfl⟩
theorem ext56c42Ok : ExtOk Try.prog ext56c42 := ⟨⟨call56c42_42, con42⟩, trivial⟩
/-! Function 56c42. -/
noncomputable def b56c42 : Code := bodyOf Try.f56
theorem hb56c42 : Try.f56.body = some b56c42 := by kernel_rfl
def sig56c42 : List AT := [AT.v (Ty.sl Ty.str), AT.fn 42 []]
def tys56c42 : List Ty := [Ty.int IntKind.i64]
def E56c42_2 (v8 : Int) (x0 : List ByteArray) : Env := [(0, PV.a (Atom.sl Ty.str x0)), (1, PV.fn 42 []), (7, PV.a (Atom.val (Value.int IntKind.i64 (↑(List.length x0) : Int)))), (8, PV.a (Atom.val (Value.int IntKind.i64 v8)))]
def L56c42_2 (v8 : Int) (x0 : List ByteArray) : Heap := []
mutual
def R56c42 : Nat → List ByteArray → List Dyn → Prop
  | 0, _, _ => False
  | n + 1, x0, ds => (R56c42_2 n (0) (x0) ds)
def R56c42_2 : Nat → Int → List ByteArray → List Dyn → Prop
  | 0, _, _, _ => False
  | n + 1, v8, x0, ds => (if (Decidable.decide (v8 < (↑(List.length x0) : Int))) = true then ((0 ≤ v8) ∧ (v8 < (↑(List.length x0) : Int)) ∧ (if (g42_0 (List.getD x0 (Int.toNat v8) ByteArray.empty)) = true then (ds = [Dyn.mk (Ty.int IntKind.i64) v8]) else ((InR IntKind.i64 (v8 + 1)) ∧ (R56c42_2 n (v8 + 1) (x0) ds)))) else (ds = [Dyn.mk (Ty.int IntKind.i64) (-1)]))
end
theorem p56c42_0 (x0 : List ByteArray) : Am.runN tab ext56c42 false 19 [] 2000 [] [] [0, 1, 7, 8] [] [] [.code b56c42] (entE 0 0 sig56c42 (x0, (), ())) (entL sig56c42 (x0, (), ())) = some (cutAt b56c42 2, E56c42_2 (0) (x0), L56c42_2 (0) (x0), []) := by kernel_rfl
theorem p56c42_1 (v8 : Int) (x0 : List ByteArray) : runF tab ext56c42 false 19 [] 2000 [] tys56c42 Try.f56.results [true, true] (cutAt b56c42 2) (E56c42_2 v8 x0) (L56c42_2 v8 x0) = some ([Dyn.mk (Ty.int IntKind.i64) v8], [], [Decidable.decide (v8 < (↑(List.length x0) : Int)) = Bool.true, 0 ≤ v8, v8 < (↑(List.length x0) : Int), True, g42_0 (List.getD x0 (Int.toNat v8) ByteArray.empty) = Bool.true]) := by kernel_rfl
theorem p56c42_2 (v8 : Int) (x0 : List ByteArray) : Am.runN tab ext56c42 false 19 [] 2000 [] [] [0, 1, 7, 8] [] [true, false] (cutAt b56c42 2) (E56c42_2 v8 x0) (L56c42_2 v8 x0) = some (cutAt b56c42 2, E56c42_2 (v8 + 1) (x0), L56c42_2 (v8 + 1) (x0), [Decidable.decide (v8 < (↑(List.length x0) : Int)) = Bool.true, 0 ≤ v8, v8 < (↑(List.length x0) : Int), True, g42_0 (List.getD x0 (Int.toNat v8) ByteArray.empty) = Bool.false, InR IntKind.i64 (v8 + 1)]) := by kernel_rfl
theorem p56c42_3 (v8 : Int) (x0 : List ByteArray) : runF tab ext56c42 false 19 [] 2000 [] tys56c42 Try.f56.results [false] (cutAt b56c42 2) (E56c42_2 v8 x0) (L56c42_2 v8 x0) = some ([Dyn.mk (Ty.int IntKind.i64) (-1)], [], [Decidable.decide (v8 < (↑(List.length x0) : Int)) = Bool.false]) := by kernel_rfl
theorem snd56c42 : ∀ n, (∀ (x0 : List ByteArray) ds, R56c42 n x0 ds → ∀ w0 O q, AtV Try.prog 56 (PostR ds [] [] q w0 O) 19 w0 O q [] [.code b56c42] (entE 0 0 sig56c42 (x0, (), ())) (entL sig56c42 (x0, (), ()))) ∧ (∀ (v8 : Int) (x0 : List ByteArray) ds, R56c42_2 n v8 x0 ds → ∀ w0 O q, AtV Try.prog 56 (PostR ds [] [] q w0 O) 19 w0 O q [] (cutAt b56c42 2) (E56c42_2 v8 x0) (L56c42_2 v8 x0)) := by
  intro n
  induction n with
  | zero => exact ⟨fun _ _ h => by simp only [R56c42] at h, fun _ _ _ h => by simp only [R56c42_2] at h⟩
  | succ n ih =>
  obtain ⟨ih, ih2⟩ := ih
  refine ⟨?_, ?_⟩
  · intro x0 ds h w0 O q
    rw [R56c42] at h
    exact AtV.runN tabOk ext56c42Ok mixed (p56c42_0 x0) trivial (ih2 _ _ _ h w0 O q)

  · intro v8 x0 ds h w0 O q
    rw [R56c42_2] at h
    by_cases b0 : (Decidable.decide (v8 < (↑(List.length x0) : Int))) = true
    · rw [if_pos b0] at h
      obtain ⟨s0, s1, h⟩ := h
      by_cases b1 : (g42_0 (List.getD x0 (Int.toNat v8) ByteArray.empty)) = true
      · rw [if_pos b1] at h
        subst h
        exact AtV.fin Try.func56 tabOk ext56c42Ok mixed (p56c42_1 v8 x0) ⟨b0, s0, s1, trivial, b1, trivial⟩
      · rw [if_neg b1] at h
        replace b1 := Bool.eq_false_iff.2 b1
        obtain ⟨s2, h⟩ := h
        exact AtV.runN tabOk ext56c42Ok mixed (p56c42_2 v8 x0) ⟨b0, s0, s1, trivial, b1, s2, trivial⟩ (ih2 _ _ _ h w0 O q)
    · rw [if_neg b0] at h
      replace b0 := Bool.eq_false_iff.2 b0
      subst h
      exact AtV.fin Try.func56 tabOk ext56c42Ok mixed (p56c42_3 v8 x0) ⟨b0, trivial⟩



def g56c42_0 (x0 : List (ByteArray)) : Int := idx (x0.findIdx? g42_0)
def P56c42 (x0 : List (ByteArray)) : Prop := True

theorem top56c42 (x0 : List (ByteArray)) (hm : x0.length ≤ maxLen) : R56c42 (x0.length + 1 + 1) x0 [⟨.int .i64, g56c42_0 x0⟩] := by
  rw [R56c42]
  have key := loop_find x0 ByteArray.empty g42_0 [(⟨.int .i64, -1⟩ : Dyn)] (fun k => [⟨.int .i64, k⟩]) (fun n i ds => R56c42_2 n i x0 ds) (fun n => ?_) (fun n i hi hok ds hr => ?_) (fun n i hi hok => ?_)
  · unfold g56c42_0
    cases h : x0.findIdx? g42_0 <;> rw [h] at key <;> exact key
  · rw [R56c42_2, if_neg (by simp)]
  · rw [R56c42_2, if_pos (by simp; omega)]
    simp only [Int.toNat_natCast]
    refine ⟨by omega, by omega, ?_⟩
    rw [if_neg (by rw [hok]; simp)]
    exact ⟨inR_up hm hi, hr⟩
  · rw [R56c42_2, if_pos (by simp; omega)]
    simp only [Int.toNat_natCast]
    refine ⟨by omega, by omega, ?_⟩
    rw [if_pos hok] <;> trivial

def S56c42 : Am.Spec := { sig := sig56c42, pre := fun ⟨x0, _⟩ => P56c42 x0, res := fun ⟨x0, _⟩ => [⟨Ty.int .i64, g56c42_0 x0⟩] }
theorem con56c42 : Contract Try.prog 56 S56c42 := contract_of Try.func56 hb56c42 (Nat.le_of_ble_eq_true (by kernel_rfl)) (fun ⟨x0, _⟩ h hwf w0 O q =>
  (snd56c42 _).1 x0 _ (top56c42 x0 hwf.1.1) w0 O q)

theorem any56c42 (x0 : List (ByteArray)) : decide (g56c42_0 x0 ≥ 0) = x0.any g42_0 := by
  have := findIdx_any g42_0 x0
  unfold g56c42_0
  cases h : x0.any g42_0 with
  | true => rw [h] at this; simpa using this
  | false => rw [h] at this; simpa using this

end Go.Proofs.Ytjoimmmpaocfkaa
