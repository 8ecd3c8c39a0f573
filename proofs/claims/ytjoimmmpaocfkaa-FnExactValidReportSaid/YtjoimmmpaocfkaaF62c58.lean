/- Function 62 (slices.IndexFunc[[]byte,byte]): its runs between cut points. Written by a program of this repo (gen). -/
import Derived.Test.YtjoimmmpaocfkaaT
import Derived.Test.YtjoimmmpaocfkaaF58
set_option linter.unusedVariables false
set_option linter.unusedSimpArgs false
set_option maxRecDepth 100000
namespace Go.Proofs.Ytjoimmmpaocfkaa
open Go Go.Am Go.Proofs
def ext62c58 : Ext := [(58, S58)]
theorem call62c58_58 : Callable Try.prog 58 := ⟨Try.f58, Try.func58, by kernel_rfl, by kernel_rfl⟩
theorem ext62c58Ok : ExtOk Try.prog ext62c58 := ⟨⟨call62c58_58, con58⟩, trivial⟩
/-! Function 62c58. -/
noncomputable def b62c58 : Code := bodyOf Try.f62
theorem hb62c58 : Try.f62.body = some b62c58 := by kernel_rfl
def sig62c58 : List AT := [AT.v (Ty.sl (Ty.int IntKind.u8)), AT.fn 58 []]
def tys62c58 : List Ty := [Ty.int IntKind.i64]
def E62c58_2 (v8 : Int) (x0 : List Int) : Env := [(0, PV.a (Atom.sl (Ty.int IntKind.u8) x0)), (1, PV.fn 58 []), (7, PV.a (Atom.val (Value.int IntKind.i64 (↑(List.length x0) : Int)))), (8, PV.a (Atom.val (Value.int IntKind.i64 v8)))]
def L62c58_2 (v8 : Int) (x0 : List Int) : Heap := []
mutual
def R62c58 : Nat → List Int → List Dyn → Prop
  | 0, _, _ => False
  | n + 1, x0, ds => (R62c58_2 n (0) (x0) ds)
def R62c58_2 : Nat → Int → List Int → List Dyn → Prop
  | 0, _, _, _ => False
  | n + 1, v8, x0, ds => (if (Decidable.decide (v8 < (↑(List.length x0) : Int))) = true then ((0 ≤ v8) ∧ (v8 < (↑(List.length x0) : Int)) ∧ (if (g58_0 (List.getD x0 (Int.toNat v8) 0)) = true then (ds = [Dyn.mk (Ty.int IntKind.i64) v8]) else ((InR IntKind.i64 (v8 + 1)) ∧ (R62c58_2 n (v8 + 1) (x0) ds)))) else (ds = [Dyn.mk (Ty.int IntKind.i64) (-1)]))
end
theorem p62c58_0 (x0 : List Int) : Am.runN tab ext62c58 false 19 [] 2000 [] [] [0, 1, 7, 8] [] [] [.code b62c58] (entE 0 0 sig62c58 (x0, (), ())) (entL sig62c58 (x0, (), ())) = some (cutAt b62c58 2, E62c58_2 (0) (x0), L62c58_2 (0) (x0), []) := by kernel_rfl
theorem p62c58_1 (v8 : Int) (x0 : List Int) : runF tab ext62c58 false 19 [] 2000 [] tys62c58 Try.f62.results [true, true] (cutAt b62c58 2) (E62c58_2 v8 x0) (L62c58_2 v8 x0) = some ([Dyn.mk (Ty.int IntKind.i64) v8], [], [Decidable.decide (v8 < (↑(List.length x0) : Int)) = Bool.true, 0 ≤ v8, v8 < (↑(List.length x0) : Int), True, g58_0 (List.getD x0 (Int.toNat v8) 0) = Bool.true]) := by kernel_rfl
theorem p62c58_2 (v8 : Int) (x0 : List Int) : Am.runN tab ext62c58 false 19 [] 2000 [] [] [0, 1, 7, 8] [] [true, false] (cutAt b62c58 2) (E62c58_2 v8 x0) (L62c58_2 v8 x0) = some (cutAt b62c58 2, E62c58_2 (v8 + 1) (x0), L62c58_2 (v8 + 1) (x0), [Decidable.decide (v8 < (↑(List.length x0) : Int)) = Bool.true, 0 ≤ v8, v8 < (↑(List.length x0) : Int), True, g58_0 (List.getD x0 (Int.toNat v8) 0) = Bool.false, InR IntKind.i64 (v8 + 1)]) := by kernel_rfl
theorem p62c58_3 (v8 : Int) (x0 : List Int) : runF tab ext62c58 false 19 [] 2000 [] tys62c58 Try.f62.results [false] (cutAt b62c58 2) (E62c58_2 v8 x0) (L62c58_2 v8 x0) = some ([Dyn.mk (Ty.int IntKind.i64) (-1)], [], [Decidable.decide (v8 < (↑(List.length x0) : Int)) = Bool.false]) := by kernel_rfl
theorem snd62c58 : ∀ n, (∀ (x0 : List Int) ds, R62c58 n x0 ds → ∀ w0 O q, AtV Try.prog 62 (PostR ds [] [] q w0 O) 19 w0 O q [] [.code b62c58] (entE 0 0 sig62c58 (x0, (), ())) (entL sig62c58 (x0, (), ()))) ∧ (∀ (v8 : Int) (x0 : List Int) ds, R62c58_2 n v8 x0 ds → ∀ w0 O q, AtV Try.prog 62 (PostR ds [] [] q w0 O) 19 w0 O q [] (cutAt b62c58 2) (E62c58_2 v8 x0) (L62c58_2 v8 x0)) := by
  intro n
  induction n with
  | zero => exact ⟨fun _ _ h => by simp only [R62c58] at h, fun _ _ _ h => by simp only [R62c58_2] at h⟩
  | succ n ih =>
  obtain ⟨ih, ih2⟩ := ih
  refine ⟨?_, ?_⟩
  · intro x0 ds h w0 O q
    rw [R62c58] at h
    exact AtV.runN tabOk ext62c58Ok mixed (p62c58_0 x0) trivial (ih2 _ _ _ h w0 O q)

  · intro v8 x0 ds h w0 O q
    rw [R62c58_2] at h
    by_cases b0 : (Decidable.decide (v8 < (↑(List.length x0) : Int))) = true
    · rw [if_pos b0] at h
      obtain ⟨s0, s1, h⟩ := h
      by_cases b1 : (g58_0 (List.getD x0 (Int.toNat v8) 0)) = true
      · rw [if_pos b1] at h
        subst h
        exact AtV.fin Try.func62 tabOk ext62c58Ok mixed (p62c58_1 v8 x0) ⟨b0, s0, s1, trivial, b1, trivial⟩
      · rw [if_neg b1] at h
        replace b1 := Bool.eq_false_iff.2 b1
        obtain ⟨s2, h⟩ := h
        exact AtV.runN tabOk ext62c58Ok mixed (p62c58_2 v8 x0) ⟨b0, s0, s1, trivial, b1, s2, trivial⟩ (ih2 _ _ _ h w0 O q)
    · rw [if_neg b0] at h
      replace b0 := Bool.eq_false_iff.2 b0
      subst h
      exact AtV.fin Try.func62 tabOk ext62c58Ok mixed (p62c58_3 v8 x0) ⟨b0, trivial⟩



def g62c58_0 (x0 : List (Int)) : Int := idx (x0.findIdx? g58_0)
def P62c58 (x0 : List (Int)) : Prop := True

theorem top62c58 (x0 : List (Int)) (hm : x0.length ≤ maxLen) : R62c58 (x0.length + 1 + 1) x0 [⟨.int .i64, g62c58_0 x0⟩] := by
  rw [R62c58]
  have key := loop_find x0 (0 : Int) g58_0 [(⟨.int .i64, -1⟩ : Dyn)] (fun k => [⟨.int .i64, k⟩]) (fun n i ds => R62c58_2 n i x0 ds) (fun n => ?_) (fun n i hi hok ds hr => ?_) (fun n i hi hok => ?_)
  · unfold g62c58_0
    cases h : x0.findIdx? g58_0 <;> rw [h] at key <;> exact key
  · rw [R62c58_2, if_neg (by simp)]
  · rw [R62c58_2, if_pos (by simp; omega)]
    simp only [Int.toNat_natCast]
    refine ⟨by omega, by omega, ?_⟩
    rw [if_neg (by rw [hok]; simp)]
    exact ⟨inR_up hm hi, hr⟩
  · rw [R62c58_2, if_pos (by simp; omega)]
    simp only [Int.toNat_natCast]
    refine ⟨by omega, by omega, ?_⟩
    rw [if_pos hok] <;> trivial

def S62c58 : Am.Spec := { sig := sig62c58, pre := fun ⟨x0, _⟩ => P62c58 x0, res := fun ⟨x0, _⟩ => [⟨Ty.int .i64, g62c58_0 x0⟩] }
theorem con62c58 : Contract Try.prog 62 S62c58 := contract_of Try.func62 hb62c58 (Nat.le_of_ble_eq_true (by kernel_rfl)) (fun ⟨x0, _⟩ h hwf w0 O q =>
  (snd62c58 _).1 x0 _ (top62c58 x0 hwf.1.1) w0 O q)

theorem any62c58 (x0 : List (Int)) : decide (g62c58_0 x0 ≥ 0) = x0.any g58_0 := by
  have := findIdx_any g58_0 x0
  unfold g62c58_0
  cases h : x0.any g58_0 with
  | true => rw [h] at this; simpa using this
  | false => rw [h] at this; simpa using this

end Go.Proofs.Ytjoimmmpaocfkaa
