/- Function 20: its runs between cut points. Written by a program of this repo (gen). -/
import Derived.Test.YtjoimmmpaocfkaaT
import Derived.Test.YtjoimmmpaocfkaaF39
set_option linter.unusedVariables false
set_option linter.unusedSimpArgs false
set_option maxRecDepth 100000
namespace Go.Proofs.Ytjoimmmpaocfkaa
open Go Go.Am Go.Proofs
def ext20 : Ext := [(39, S39)]
theorem call20_39 : Callable Try.prog 39 := ⟨Try.f39, Try.func39, by kernel_rfl, by kernel_rfl⟩
theorem ext20Ok : ExtOk Try.prog ext20 := ⟨⟨call20_39, con39⟩, trivial⟩
/-! Function 20. -/
noncomputable def b20 : Code := bodyOf Try.f20
theorem hb20 : Try.f20.body = some b20 := by kernel_rfl
def sig20 : List AT := [AT.v (.sl .str),AT.v (Ty.int .i64)]
def tys20 : List Ty := [.int .i64]
def E20_2 (v5 : Int) (x0 : List ByteArray) (x1 : Int) : Env := [(0, PV.a (Atom.sl Ty.str x0)), (1, PV.a (Atom.val (Value.int IntKind.i64 x1))), (5, PV.a (Atom.val (Value.int IntKind.i64 v5)))]
def L20_2 (v5 : Int) (x0 : List ByteArray) (x1 : Int) : Heap := []
mutual
def R20 : Nat → List ByteArray → Int → List Dyn → Prop
  | 0, _, _, _ => False
  | n + 1, x0, x1, ds => (R20_2 n (0) (x0) (x1) ds)
def R20_2 : Nat → Int → List ByteArray → Int → List Dyn → Prop
  | 0, _, _, _, _ => False
  | n + 1, v5, x0, x1, ds => (if (Decidable.decide (v5 < (↑(List.length x0) : Int))) = true then ((0 ≤ v5) ∧ (v5 < (↑(List.length x0) : Int)) ∧ (if (!ByteArray.toList (List.getD x0 (Int.toNat v5) ByteArray.empty) == ByteArray.toList (g39_0 x1)) = true then (ds = [Dyn.mk (Ty.int IntKind.i64) (-1)]) else ((InR IntKind.i64 (x1 + 1)) ∧ ((InR IntKind.i64 (v5 + 1)) ∧ (R20_2 n (v5 + 1) (x0) (x1 + 1) ds))))) else (ds = [Dyn.mk (Ty.int IntKind.i64) x1]))
end
theorem p20_0 (x0 : List ByteArray) (x1 : Int) : Am.runN tab ext20 false 22 [] 2000 [] [] [0, 1, 5] [] [] [.code b20] (entE 0 0 sig20 (x0, x1, ())) (entL sig20 (x0, x1, ())) = some (cutAt b20 2, E20_2 (0) (x0) (x1), L20_2 (0) (x0) (x1), []) := by kernel_rfl
theorem p20_1 (v5 : Int) (x0 : List ByteArray) (x1 : Int) : runF tab ext20 false 22 [] 2000 [] tys20 Try.f20.results [true, true] (cutAt b20 2) (E20_2 v5 x0 x1) (L20_2 v5 x0 x1) = some ([Dyn.mk (Ty.int IntKind.i64) (-1)], [], [Decidable.decide (v5 < (↑(List.length x0) : Int)) = Bool.true, 0 ≤ v5, v5 < (↑(List.length x0) : Int), True, (!ByteArray.toList (List.getD x0 (Int.toNat v5) ByteArray.empty) == ByteArray.toList (g39_0 x1)) = Bool.true]) := by kernel_rfl
theorem p20_2 (v5 : Int) (x0 : List ByteArray) (x1 : Int) : Am.runN tab ext20 false 22 [] 2000 [] [] [0, 1, 5] [] [true, false] (cutAt b20 2) (E20_2 v5 x0 x1) (L20_2 v5 x0 x1) = some (cutAt b20 2, E20_2 (v5 + 1) (x0) (x1 + 1), L20_2 (v5 + 1) (x0) (x1 + 1), [Decidable.decide (v5 < (↑(List.length x0) : Int)) = Bool.true, 0 ≤ v5, v5 < (↑(List.length x0) : Int), True, (!ByteArray.toList (List.getD x0 (Int.toNat v5) ByteArray.empty) == ByteArray.toList (g39_0 x1)) = Bool.false, InR IntKind.i64 (x1 + 1), InR IntKind.i64 (v5 + 1)]) := by kernel_rfl
theorem p20_3 (v5 : Int) (x0 : List ByteArray) (x1 : Int) : runF tab ext20 false 22 [] 2000 [] tys20 Try.f20.results [false] (cutAt b20 2) (E20_2 v5 x0 x1) (L20_2 v5 x0 x1) = some ([Dyn.mk (Ty.int IntKind.i64) x1], [], [Decidable.decide (v5 < (↑(List.length x0) : Int)) = Bool.false]) := by kernel_rfl
theorem snd20 : ∀ n, (∀ (x0 : List ByteArray) (x1 : Int) ds, R20 n x0 x1 ds → ∀ w0 O q, AtV Try.prog 20 (PostR ds [] [] q w0 O) 22 w0 O q [] [.code b20] (entE 0 0 sig20 (x0, x1, ())) (entL sig20 (x0, x1, ()))) ∧ (∀ (v5 : Int) (x0 : List ByteArray) (x1 : Int) ds, R20_2 n v5 x0 x1 ds → ∀ w0 O q, AtV Try.prog 20 (PostR ds [] [] q w0 O) 22 w0 O q [] (cutAt b20 2) (E20_2 v5 x0 x1) (L20_2 v5 x0 x1)) := by
  intro n
  induction n with
  | zero => exact ⟨fun _ _ _ h => by simp only [R20] at h, fun _ _ _ _ h => by simp only [R20_2] at h⟩
  | succ n ih =>
  obtain ⟨ih, ih2⟩ := ih
  refine ⟨?_, ?_⟩
  · intro x0 x1 ds h w0 O q
    rw [R20] at h
    exact AtV.runN tabOk ext20Ok mixed (p20_0 x0 x1) trivial (ih2 _ _ _ _ h w0 O q)

  · intro v5 x0 x1 ds h w0 O q
    rw [R20_2] at h
    by_cases b0 : (Decidable.decide (v5 < (↑(List.length x0) : Int))) = true
    · rw [if_pos b0] at h
      obtain ⟨s0, s1, h⟩ := h
      by_cases b1 : (!ByteArray.toList (List.getD x0 (Int.toNat v5) ByteArray.empty) == ByteArray.toList (g39_0 x1)) = true
      · rw [if_pos b1] at h
        subst h
        exact AtV.fin Try.func20 tabOk ext20Ok mixed (p20_1 v5 x0 x1) ⟨b0, s0, s1, trivial, b1, trivial⟩
      · rw [if_neg b1] at h
        replace b1 := Bool.eq_false_iff.2 b1
        obtain ⟨s2, h⟩ := h
        obtain ⟨s3, h⟩ := h
        exact AtV.runN tabOk ext20Ok mixed (p20_2 v5 x0 x1) ⟨b0, s0, s1, trivial, b1, s2, s3, trivial⟩ (ih2 _ _ _ _ h w0 O q)
    · rw [if_neg b0] at h
      replace b0 := Bool.eq_false_iff.2 b0
      subst h
      exact AtV.fin Try.func20 tabOk ext20Ok mixed (p20_3 v5 x0 x1) ⟨b0, trivial⟩



theorem run20 (x0 : List ByteArray) (x1 : Int) (hm : x0.length ≤ maxLen) (h0 : 0 ≤ x1) (h1 : x1 + x0.length ≤ 9223372036854775807) (he : ∀ i : Nat, i < x0.length → x0.getD i ByteArray.empty = g39_0 (x1 + (i : Int))) : ∀ (k i : Nat), i + k = x0.length →
    R20_2 (k + 1) (i : Int) x0 (x1 + (i : Int)) [⟨.int .i64, x1 + (x0.length : Int)⟩] := by
  intro k
  induction k with
  | zero =>
    intro i hi
    rw [R20_2, if_neg (by simp; omega)]
    have : i = x0.length := by omega
    subst this
    rfl
  | succ k ih =>
    intro i hi
    rw [R20_2, if_pos (by simp; omega)]
    simp only [Int.toNat_natCast]
    have hb := (bytes_eq _ _).2 (he i (by omega))
    refine ⟨by omega, by omega, ?_⟩
    rw [if_neg (by rw [hb]; simp)]
    refine ⟨by rw [i64_iff]; omega, inR_up hm (by omega), ?_⟩
    rw [Int.add_assoc]
    exact ih (i + 1) (by omega)

def P20 (x0 : List ByteArray) (x1 : Int) : Prop := (0 ≤ x1 ∧ x1 + x0.length ≤ 9223372036854775807) ∧ ∀ i : Nat, i < x0.length → x0.getD i ByteArray.empty = g39_0 (x1 + (i : Int))
def g20_0 (x0 : List ByteArray) (x1 : Int) : Int := x1 + (x0.length : Int)

theorem top20 (x0 : List ByteArray) (x1 : Int) (hm : x0.length ≤ maxLen) (h : P20 x0 x1) : R20 (x0.length + 1 + 1) x0 x1 [⟨.int .i64, g20_0 x0 x1⟩] := by
  rw [R20]
  have := run20 x0 x1 hm h.1.1 h.1.2 h.2 x0.length 0 (by omega)
  simpa [g20_0] using this

def S20 : Am.Spec := { sig := sig20, pre := fun ⟨x0, x1, _⟩ => P20 x0 x1, res := fun ⟨x0, x1, _⟩ => [⟨.int .i64, g20_0 x0 x1⟩] }
theorem con20 : Contract Try.prog 20 S20 := contract_of Try.func20 hb20 (Nat.le_of_ble_eq_true (by kernel_rfl)) (fun ⟨x0, x1, _⟩ h hwf w0 O q =>
  (snd20 _).1 x0 x1 _ (top20 x0 x1 hwf.1.1 h) w0 O q)

end Go.Proofs.Ytjoimmmpaocfkaa
