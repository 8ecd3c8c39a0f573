/- Function 19: its runs between cut points. Written by a program of this repo (gen). -/
import Derived.Test.YtjoimmmpaocfkaaT
import Derived.Test.YtjoimmmpaocfkaaF39
set_option linter.unusedVariables false
set_option linter.unusedSimpArgs false
set_option maxRecDepth 100000
namespace Go.Proofs.Ytjoimmmpaocfkaa
open Go Go.Am Go.Proofs
def ext19 : Ext := [(39, S39)]
theorem call19_39 : Callable Try.prog 39 := ⟨Try.f39, Try.func39, by kernel_rfl, by kernel_rfl⟩
theorem ext19Ok : ExtOk Try.prog ext19 := ⟨⟨call19_39, con39⟩, trivial⟩
/-! Function 19. -/
noncomputable def b19 : Code := bodyOf Try.f19
theorem hb19 : Try.f19.body = some b19 := by kernel_rfl
def sig19 : List AT := [AT.own .str,AT.v (Ty.int .i64)]
def tys19 : List Ty := [.int .i64]
def E19_2 (v5 : Int) (x1 : Int) (x0 : List ByteArray) : Env := [(0, PV.a (Atom.osl 0 Option.none)), (1, PV.a (Atom.val (Value.int IntKind.i64 x1))), (5, PV.a (Atom.val (Value.int IntKind.i64 v5)))]
def L19_2 (v5 : Int) (x1 : Int) (x0 : List ByteArray) : Heap := [Option.some (Arr.mk Ty.str x0 Bool.false)]
mutual
def R19 : Nat → List ByteArray → Int → List Dyn → List (Option Lst) → Prop
  | 0, _, _, _, _ => False
  | n + 1, x0, x1, ds, us => (R19_2 n (0) (x1) (x0) ds us)
def R19_2 : Nat → Int → Int → List ByteArray → List Dyn → List (Option Lst) → Prop
  | 0, _, _, _, _, _ => False
  | n + 1, v5, x1, x0, ds, us => (if (Decidable.decide (v5 < (↑(List.length x0) : Int))) = true then ((0 ≤ v5) ∧ (v5 < (↑(List.length x0) : Int)) ∧ ((InR IntKind.i64 (x1 + 1)) ∧ ((InR IntKind.i64 (v5 + 1)) ∧ (R19_2 n (v5 + 1) (x1 + 1) (List.set x0 (Int.toNat v5) (g39_0 x1)) ds us)))) else (ds = [Dyn.mk (Ty.int IntKind.i64) x1] ∧ us = [Option.some (Lst.mk Ty.str x0)]))
end
theorem p19_0 (x0 : List ByteArray) (x1 : Int) : Am.runN tab ext19 false 20 [] 2000 [0] [] [0, 1, 5] [true] [] [.code b19] (entE 0 0 sig19 (x0, x1, ())) (entL sig19 (x0, x1, ())) = some (cutAt b19 2, E19_2 (0) (x1) (x0), L19_2 (0) (x1) (x0), []) := by kernel_rfl
theorem p19_1 (v5 : Int) (x1 : Int) (x0 : List ByteArray) : Am.runN tab ext19 false 20 [] 2000 [0] [] [0, 1, 5] [true] [true] (cutAt b19 2) (E19_2 v5 x1 x0) (L19_2 v5 x1 x0) = some (cutAt b19 2, E19_2 (v5 + 1) (x1 + 1) (List.set x0 (Int.toNat v5) (g39_0 x1)), L19_2 (v5 + 1) (x1 + 1) (List.set x0 (Int.toNat v5) (g39_0 x1)), [Decidable.decide (v5 < (↑(List.length x0) : Int)) = Bool.true, True, 0 ≤ v5, v5 < (↑(List.length x0) : Int), InR IntKind.i64 (x1 + 1), InR IntKind.i64 (v5 + 1)]) := by kernel_rfl
theorem p19_2 (v5 : Int) (x1 : Int) (x0 : List ByteArray) : runF tab ext19 false 20 [] 2000 [0] tys19 Try.f19.results [false] (cutAt b19 2) (E19_2 v5 x1 x0) (L19_2 v5 x1 x0) = some ([Dyn.mk (Ty.int IntKind.i64) x1], [Option.some (Lst.mk Ty.str x0)], [Decidable.decide (v5 < (↑(List.length x0) : Int)) = Bool.false]) := by kernel_rfl
theorem snd19 : ∀ n, (∀ (x0 : List ByteArray) (x1 : Int) ds us, R19 n x0 x1 ds us → ∀ w0 O q, AtV Try.prog 19 (PostR ds us [0] q w0 O) 20 w0 O q [0] [.code b19] (entE 0 0 sig19 (x0, x1, ())) (entL sig19 (x0, x1, ()))) ∧ (∀ (v5 : Int) (x1 : Int) (x0 : List ByteArray) ds us, R19_2 n v5 x1 x0 ds us → ∀ w0 O q, AtV Try.prog 19 (PostR ds us [0] q w0 O) 20 w0 O q [0] (cutAt b19 2) (E19_2 v5 x1 x0) (L19_2 v5 x1 x0)) := by
  intro n
  induction n with
  | zero => exact ⟨fun _ _ _ _ h => by simp only [R19] at h, fun _ _ _ _ _ h => by simp only [R19_2] at h⟩
  | succ n ih =>
  obtain ⟨ih, ih2⟩ := ih
  refine ⟨?_, ?_⟩
  · intro x0 x1 ds us h w0 O q
    rw [R19] at h
    exact AtV.runN tabOk ext19Ok mixed (p19_0 x0 x1) trivial (ih2 _ _ _ _ _ h w0 O q)

  · intro v5 x1 x0 ds us h w0 O q
    rw [R19_2] at h
    by_cases b0 : (Decidable.decide (v5 < (↑(List.length x0) : Int))) = true
    · rw [if_pos b0] at h
      obtain ⟨s0, s1, h⟩ := h
      obtain ⟨s2, h⟩ := h
      obtain ⟨s3, h⟩ := h
      exact AtV.runN tabOk ext19Ok mixed (p19_1 v5 x1 x0) ⟨b0, trivial, s0, s1, s2, s3, trivial⟩ (ih2 _ _ _ _ _ h w0 O q)
    · rw [if_neg b0] at h
      replace b0 := Bool.eq_false_iff.2 b0
      obtain ⟨h, h'⟩ := h; subst h; subst h'
      exact AtV.fin Try.func19 tabOk ext19Ok mixed (p19_2 v5 x1 x0) ⟨b0, trivial⟩



def M19 (x1 : Int) (n : Nat) : List ByteArray := (List.range n).map fun (j : Nat) => g39_0 (x1 + (j : Int))

theorem M19_len (x1 : Int) (n : Nat) : (M19 x1 n).length = n := by simp [M19]

theorem M19_step (x1 : Int) (x0 : List ByteArray) (i : Nat) (h : i < x0.length) : (M19 x1 i ++ x0.drop i).set i (g39_0 (x1 + (i : Int))) = M19 x1 (i + 1) ++ x0.drop (i + 1) := by
  rw [List.set_append_right _ _ (by rw [M19_len]; exact Nat.le_refl _), M19_len, Nat.sub_self, List.drop_eq_getElem_cons h, List.set_cons_zero]
  simp [M19, List.range_succ]

theorem run19 (x0 : List ByteArray) (x1 : Int) (hm : x0.length ≤ maxLen) (h0 : 0 ≤ x1) (h1 : x1 + x0.length ≤ 9223372036854775807) : ∀ (k i : Nat), i + k = x0.length →
    R19_2 (k + 1) (i : Int) (x1 + (i : Int)) (M19 x1 i ++ x0.drop i) [⟨.int .i64, x1 + (x0.length : Int)⟩] [some ⟨.str, M19 x1 x0.length⟩] := by
  intro k
  induction k with
  | zero =>
    intro i hi
    have hl : (M19 x1 i ++ x0.drop i).length = x0.length := by simp [M19_len]; omega
    rw [R19_2, if_neg (by rw [hl]; simp; omega), drop_end x0 i (by omega), List.append_nil]
    have : i = x0.length := by omega
    subst this
    exact ⟨rfl, rfl⟩
  | succ k ih =>
    intro i hi
    have hl : (M19 x1 i ++ x0.drop i).length = x0.length := by simp [M19_len]; omega
    rw [R19_2, if_pos (by rw [hl]; simp; omega), hl]
    simp only [Int.toNat_natCast]
    refine ⟨by omega, by omega, by rw [i64_iff]; omega, inR_up hm (by omega), ?_⟩
    rw [M19_step x1 x0 i (by omega), Int.add_assoc]
    exact ih (i + 1) (by omega)

def P19 (x0 : List ByteArray) (x1 : Int) : Prop := 0 ≤ x1 ∧ x1 + x0.length ≤ 9223372036854775807
def g19_0 (x0 : List ByteArray) (x1 : Int) : Int := x1 + (x0.length : Int)
def u19_0 (x0 : List ByteArray) (x1 : Int) : List ByteArray := M19 x1 x0.length

theorem top19 (x0 : List ByteArray) (x1 : Int) (hm : x0.length ≤ maxLen) (h : P19 x0 x1) : R19 (x0.length + 1 + 1) x0 x1 [⟨.int .i64, g19_0 x0 x1⟩] [some ⟨.str, u19_0 x0 x1⟩] := by
  rw [R19]
  have := run19 x0 x1 hm h.1 h.2 x0.length 0 (by omega)
  simpa [M19, g19_0, u19_0] using this

def S19 : Am.Spec := { sig := sig19, pre := fun ⟨x0, x1, _⟩ => P19 x0 x1, upd := fun ⟨x0, x1, _⟩ => [some ⟨.str, u19_0 x0 x1⟩], res := fun ⟨x0, x1, _⟩ => [⟨.int .i64, g19_0 x0 x1⟩] }
theorem con19 : Contract Try.prog 19 S19 := contract_of Try.func19 hb19 (Nat.le_of_ble_eq_true (by kernel_rfl)) (fun ⟨x0, x1, _⟩ h hwf w0 O q =>
  (snd19 _).1 x0 x1 _ _ (top19 x0 x1 hwf.1.1 h) w0 O q)

end Go.Proofs.Ytjoimmmpaocfkaa
