/- Function 23 (laws.toStringS): its runs between cut points. Written by a program of this repo (gen). -/
import Derived.Test.YtjoimmmpaocfkaaT
set_option linter.unusedVariables false
set_option linter.unusedSimpArgs false
set_option maxRecDepth 100000
namespace Go.Proofs.Ytjoimmmpaocfkaa
open Go Go.Am Go.Proofs
def ext23 : Ext := []
theorem ext23Ok : ExtOk Try.prog ext23 := trivial
/-! Function 23. -/
noncomputable def b23 : Code := bodyOf Try.f23
theorem hb23 : Try.f23.body = some b23 := by kernel_rfl
def sig23 : List AT := [AT.v (Ty.sl Ty.str)]
def tys23 : List Ty := [Ty.sl Ty.str]
def E23_3 (v4 : Int) (h0 : List ByteArray) (x0 : List ByteArray) : Env := [(0, PV.a (Atom.sl Ty.str x0)), (3, PV.a (Atom.osl 0 Option.none)), (4, PV.a (Atom.val (Value.int IntKind.i64 v4)))]
def L23_3 (v4 : Int) (h0 : List ByteArray) (x0 : List ByteArray) : Heap := [Option.some (Arr.mk Ty.str h0 Bool.false)]
mutual
def R23 : Nat → List ByteArray → List Dyn → Prop
  | 0, _, _ => False
  | n + 1, x0, ds => ((0 ≤ (↑(List.length x0) : Int)) ∧ ((↑(List.length x0) : Int) ≤ (↑(List.length x0) : Int)) ∧ (16 * (↑(List.length x0) : Int) ≤ 281474976710656) ∧ (R23_3 n (0) (List.replicate (Int.toNat (↑(List.length x0) : Int)) ByteArray.empty) (x0) ds))
def R23_3 : Nat → Int → List ByteArray → List ByteArray → List Dyn → Prop
  | 0, _, _, _, _ => False
  | n + 1, v4, h0, x0, ds => (if (Decidable.decide (v4 < (↑(List.length x0) : Int))) = true then ((0 ≤ v4) ∧ (v4 < (↑(List.length x0) : Int)) ∧ ((0 ≤ v4) ∧ (v4 < (↑(List.length h0) : Int)) ∧ ((InR IntKind.i64 (v4 + 1)) ∧ (R23_3 n (v4 + 1) (List.set h0 (Int.toNat v4) (List.getD x0 (Int.toNat v4) ByteArray.empty)) (x0) ds)))) else (ds = [Dyn.mk (Ty.sl Ty.str) h0]))
end
theorem p23_0 (x0 : List ByteArray) : Am.runN tab ext23 false 22 [] 2000 [] [] [0, 3, 4] [true] [] [.code b23] (entE 0 0 sig23 (x0, ())) (entL sig23 (x0, ())) = some (cutAt b23 3, E23_3 (0) (List.replicate (Int.toNat (↑(List.length x0) : Int)) ByteArray.empty) (x0), L23_3 (0) (List.replicate (Int.toNat (↑(List.length x0) : Int)) ByteArray.empty) (x0), [0 ≤ (↑(List.length x0) : Int), (↑(List.length x0) : Int) ≤ (↑(List.length x0) : Int), 16 * (↑(List.length x0) : Int) ≤ 281474976710656]) := by kernel_rfl
theorem p23_1 (v4 : Int) (h0 : List ByteArray) (x0 : List ByteArray) : Am.runN tab ext23 false 22 [] 2000 [] [] [0, 3, 4] [true] [true] (cutAt b23 3) (E23_3 v4 h0 x0) (L23_3 v4 h0 x0) = some (cutAt b23 3, E23_3 (v4 + 1) (List.set h0 (Int.toNat v4) (List.getD x0 (Int.toNat v4) ByteArray.empty)) (x0), L23_3 (v4 + 1) (List.set h0 (Int.toNat v4) (List.getD x0 (Int.toNat v4) ByteArray.empty)) (x0), [Decidable.decide (v4 < (↑(List.length x0) : Int)) = Bool.true, 0 ≤ v4, v4 < (↑(List.length x0) : Int), 0 ≤ v4, v4 < (↑(List.length h0) : Int), InR IntKind.i64 (v4 + 1)]) := by kernel_rfl
theorem p23_2 (v4 : Int) (h0 : List ByteArray) (x0 : List ByteArray) : runF tab ext23 false 22 [] 2000 [] tys23 Try.f23.results [false] (cutAt b23 3) (E23_3 v4 h0 x0) (L23_3 v4 h0 x0) = some ([Dyn.mk (Ty.sl Ty.str) h0], [], [Decidable.decide (v4 < (↑(List.length x0) : Int)) = Bool.false]) := by kernel_rfl
theorem snd23 : ∀ n, (∀ (x0 : List ByteArray) ds, R23 n x0 ds → ∀ w0 O q, AtV Try.prog 23 (PostR ds [] [] q w0 O) 22 w0 O q [] [.code b23] (entE 0 0 sig23 (x0, ())) (entL sig23 (x0, ()))) ∧ (∀ (v4 : Int) (h0 : List ByteArray) (x0 : List ByteArray) ds, R23_3 n v4 h0 x0 ds → ∀ w0 O q, AtV Try.prog 23 (PostR ds [] [] q w0 O) 22 w0 O q [] (cutAt b23 3) (E23_3 v4 h0 x0) (L23_3 v4 h0 x0)) := by
  intro n
  induction n with
  | zero => exact ⟨fun _ _ h => by simp only [R23] at h, fun _ _ _ _ h => by simp only [R23_3] at h⟩
  | succ n ih =>
  obtain ⟨ih, ih3⟩ := ih
  refine ⟨?_, ?_⟩
  · intro x0 ds h w0 O q
    rw [R23] at h
    obtain ⟨s0, s1, s2, h⟩ := h
    exact AtV.runN tabOk ext23Ok mixed (p23_0 x0) ⟨s0, s1, s2, trivial⟩ (ih3 _ _ _ _ h w0 O q)

  · intro v4 h0 x0 ds h w0 O q
    rw [R23_3] at h
    by_cases b0 : (Decidable.decide (v4 < (↑(List.length x0) : Int))) = true
    · rw [if_pos b0] at h
      obtain ⟨s0, s1, h⟩ := h
      obtain ⟨s2, s3, h⟩ := h
      obtain ⟨s4, h⟩ := h
      exact AtV.runN tabOk ext23Ok mixed (p23_1 v4 h0 x0) ⟨b0, s0, s1, s2, s3, s4, trivial⟩ (ih3 _ _ _ _ h w0 O q)
    · rw [if_neg b0] at h
      replace b0 := Bool.eq_false_iff.2 b0
      subst h
      exact AtV.fin Try.func23 tabOk ext23Ok mixed (p23_2 v4 h0 x0) ⟨b0, trivial⟩



theorem run23 (x0 : List ByteArray) (hm : x0.length ≤ maxLen) : ∀ (k i : Nat), i + k = x0.length →
    R23_3 (k + 1) (i : Int) (x0.take i ++ List.replicate k ByteArray.empty) x0 [⟨.sl .str, x0⟩] := by
  intro k
  induction k with
  | zero =>
    intro i hi
    rw [R23_3, if_neg (by simp; omega), List.take_of_length_le (by omega)]
    simp
  | succ k ih =>
    intro i hi
    rw [R23_3, if_pos (by simp; omega)]
    simp only [Int.toNat_natCast]
    refine ⟨by omega, by omega, by omega, by simp; omega, inR_up hm (by omega), ?_⟩
    have hs := set_step x0 ByteArray.empty i (by omega) (k + 1) (by omega)
    rw [hs]
    exact ih (i + 1) (by omega)

def g23_0 (x0 : List ByteArray) : List ByteArray := x0
def P23 (x0 : List ByteArray) : Prop := 16 * (x0.length : Int) ≤ 281474976710656
def S23 : Am.Spec := { sig := sig23, pre := fun ⟨x0, _⟩ => P23 x0, res := fun ⟨x0, _⟩ => [⟨.sl .str, g23_0 x0⟩] }
theorem con23 : Contract Try.prog 23 S23 := contract_of Try.func23 hb23 (Nat.le_of_ble_eq_true (by kernel_rfl)) (fun ⟨x0, _⟩ h hwf w0 O q => by
  refine (snd23 (x0.length + 2)).1 x0 _ ?_ w0 O q
  show R23 (x0.length + 1 + 1) x0 [⟨.sl .str, x0⟩]
  rw [R23]
  refine ⟨by omega, by omega, h, ?_⟩
  have := run23 x0 hwf.1.1 x0.length 0 (by omega)
  simpa using this)

end Go.Proofs.Ytjoimmmpaocfkaa
