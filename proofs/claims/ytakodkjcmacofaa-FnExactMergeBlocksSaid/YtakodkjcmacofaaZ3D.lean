/- Several texts in one: the functions that this law reaches, and their laws. -/
import Derived.Test.YtakodkjcmacofaaZ3A
import Derived.Test.YtakodkjcmacofaaZ3B
import Derived.Test.YtakodkjcmacofaaZ3C
import Derived.Lib.IndexAny
import Derived.Lib.IndexMore

/- Function 28 (laws.markText): its runs between cut points. Written by a program of this repo (gen). -/
set_option linter.unusedVariables false
set_option linter.unusedSimpArgs false
set_option maxRecDepth 100000
namespace Go.Proofs.Ytakodkjcmacofaa
open Go Go.Am Go.Proofs
def ext28 : Ext := []
theorem ext28Ok : ExtOk Try.prog ext28 := trivial
/-! Function 28. -/
noncomputable def b28 : Code := bodyOf Try.f28
theorem hb28 : Try.f28.body = some b28 := by kernel_rfl
def sig28 : List AT := [AT.v (Ty.int IntKind.i64)]
def tys28 : List Ty := [Ty.str]
def E28_4 (v3 : ByteArray) (x0 : Int) : Env := [(0, PV.a (Atom.val (Value.int IntKind.i64 x0))), (3, PV.a (Atom.val (Value.string v3)))]
def L28_4 (v3 : ByteArray) (x0 : Int) : Heap := []
mutual
def R28 : Nat → Int → List Dyn → Prop
  | 0, _, _ => False
  | n + 1, x0, ds => (if (Decidable.decide (x0 ≤ 0)) = true then (ds = [Dyn.mk Ty.str (ByteArray.mk #[109, 48])]) else (R28_4 n (ByteArray.mk #[]) (x0) ds))
def R28_4 : Nat → ByteArray → Int → List Dyn → Prop
  | 0, _, _, _ => False
  | n + 1, v3, x0, ds => (if (Decidable.decide (x0 > 0)) = true then ((InR IntKind.i64 (Int.tmod x0 10)) ∧ ((InR IntKind.i64 (48 + Int.tmod x0 10)) ∧ ((InR IntKind.u8 (48 + Int.tmod x0 10)) ∧ ((ByteArray.size (bytesStr [48 + Int.tmod x0 10]) + ByteArray.size v3 ≤ 9223372036854775807) ∧ ((InR IntKind.i64 (Int.tdiv x0 10)) ∧ (R28_4 n (bytesStr [48 + Int.tmod x0 10] ++ v3) (Int.tdiv x0 10) ds)))))) else ((1 + ByteArray.size v3 ≤ 9223372036854775807) ∧ (ds = [Dyn.mk Ty.str (ByteArray.mk #[109] ++ v3)])))
end
theorem p28_0 (x0 : Int) : runF tab ext28 false 20 [] 2000 [] tys28 Try.f28.results [true] [.code b28] (entE 0 0 sig28 (x0, ())) (entL sig28 (x0, ())) = some ([Dyn.mk Ty.str (ByteArray.mk #[109, 48])], [], [Decidable.decide (x0 ≤ 0) = Bool.true]) := by kernel_rfl
theorem p28_1 (x0 : Int) : Am.runN tab ext28 false 20 [] 2000 [] [] [0, 3] [] [false] [.code b28] (entE 0 0 sig28 (x0, ())) (entL sig28 (x0, ())) = some (cutAt b28 4, E28_4 (ByteArray.mk #[]) (x0), L28_4 (ByteArray.mk #[]) (x0), [Decidable.decide (x0 ≤ 0) = Bool.false]) := by kernel_rfl
theorem p28_2 (v3 : ByteArray) (x0 : Int) : Am.runN tab ext28 false 20 [] 2000 [] [] [0, 3] [] [true] (cutAt b28 4) (E28_4 v3 x0) (L28_4 v3 x0) = some (cutAt b28 4, E28_4 (bytesStr [48 + Int.tmod x0 10] ++ v3) (Int.tdiv x0 10), L28_4 (bytesStr [48 + Int.tmod x0 10] ++ v3) (Int.tdiv x0 10), [Decidable.decide (x0 > 0) = Bool.true, (10 : Int) ≠ (0 : Int), InR IntKind.i64 (Int.tmod x0 10), InR IntKind.i64 (48 + Int.tmod x0 10), InR IntKind.u8 (48 + Int.tmod x0 10), ByteArray.size (bytesStr [48 + Int.tmod x0 10]) + ByteArray.size v3 ≤ 9223372036854775807, (10 : Int) ≠ (0 : Int), InR IntKind.i64 (Int.tdiv x0 10)]) := by kernel_rfl
theorem p28_3 (v3 : ByteArray) (x0 : Int) : runF tab ext28 false 20 [] 2000 [] tys28 Try.f28.results [false] (cutAt b28 4) (E28_4 v3 x0) (L28_4 v3 x0) = some ([Dyn.mk Ty.str (ByteArray.mk #[109] ++ v3)], [], [Decidable.decide (x0 > 0) = Bool.false, 1 + ByteArray.size v3 ≤ 9223372036854775807]) := by kernel_rfl
theorem snd28 : ∀ n, (∀ (x0 : Int) ds, R28 n x0 ds → ∀ w0 O q, AtV Try.prog 28 (PostR ds [] [] q w0 O) 20 w0 O q [] [.code b28] (entE 0 0 sig28 (x0, ())) (entL sig28 (x0, ()))) ∧ (∀ (v3 : ByteArray) (x0 : Int) ds, R28_4 n v3 x0 ds → ∀ w0 O q, AtV Try.prog 28 (PostR ds [] [] q w0 O) 20 w0 O q [] (cutAt b28 4) (E28_4 v3 x0) (L28_4 v3 x0)) := by
  intro n
  induction n with
  | zero => exact ⟨fun _ _ h => by simp only [R28] at h, fun _ _ _ h => by simp only [R28_4] at h⟩
  | succ n ih =>
  obtain ⟨ih, ih4⟩ := ih
  refine ⟨?_, ?_⟩
  · intro x0 ds h w0 O q
    rw [R28] at h
    by_cases b0 : (Decidable.decide (x0 ≤ 0)) = true
    · rw [if_pos b0] at h
      subst h
      exact AtV.fin Try.func28 tabOk ext28Ok mixed (p28_0 x0) ⟨b0, trivial⟩
    · rw [if_neg b0] at h
      replace b0 := Bool.eq_false_iff.2 b0
      exact AtV.runN tabOk ext28Ok mixed (p28_1 x0) ⟨b0, trivial⟩ (ih4 _ _ _ h w0 O q)

  · intro v3 x0 ds h w0 O q
    rw [R28_4] at h
    by_cases b0 : (Decidable.decide (x0 > 0)) = true
    · rw [if_pos b0] at h
      obtain ⟨s0, h⟩ := h
      obtain ⟨s1, h⟩ := h
      obtain ⟨s2, h⟩ := h
      obtain ⟨s3, h⟩ := h
      obtain ⟨s4, h⟩ := h
      exact AtV.runN tabOk ext28Ok mixed (p28_2 v3 x0) ⟨b0, (by decide), s0, s1, s2, s3, (by decide), s4, trivial⟩ (ih4 _ _ _ h w0 O q)
    · rw [if_neg b0] at h
      replace b0 := Bool.eq_false_iff.2 b0
      obtain ⟨s0, h⟩ := h
      subst h
      exact AtV.fin Try.func28 tabOk ext28Ok mixed (p28_3 v3 x0) ⟨b0, s0, trivial⟩



def loop28 : Nat → ByteArray → Int → ByteArray
  | 0, v, _ => v
  | n + 1, v, x => if 0 < x then loop28 n (bytesStr [48 + Int.tmod x 10] ++ v) (Int.tdiv x 10) else v

theorem run28 : ∀ (n : Nat) (v : ByteArray) (x : Int), x < 10 ^ n → InR .i64 x → v.size + n ≤ 1000 → R28_4 (n + 1) v x [⟨.str, ByteArray.mk #[109] ++ loop28 n v x⟩] := by
  intro n
  induction n with
  | zero =>
    intro v x h1 _ h2
    rw [R28_4, if_neg (by simp at h1 ⊢; omega)]
    exact ⟨by omega, rfl⟩
  | succ n ih =>
    intro v x h1 hi h2
    rw [i64_iff] at hi
    rw [R28_4]
    by_cases hx : 0 < x
    · rw [if_pos (by simpa using hx)]
      have e1 : Int.tmod x 10 = x % 10 := Int.tmod_eq_emod_of_nonneg (by omega)
      have e2 : Int.tdiv x 10 = x / 10 := Int.tdiv_eq_ediv_of_nonneg (by omega)
      have hs : (bytesStr [48 + Int.tmod x 10]).size = 1 := bytesStr_size _
      have hp : (10 : Int) ^ (n + 1) = 10 * 10 ^ n := by rw [Int.pow_succ, Int.mul_comm]
      refine ⟨by rw [i64_iff, e1]; omega, by rw [i64_iff, e1]; omega, by rw [u8_iff, e1]; omega, by rw [hs]; omega, by rw [i64_iff, e2]; omega, ?_⟩
      have := ih (bytesStr [48 + Int.tmod x 10] ++ v) (Int.tdiv x 10) (by rw [e2]; omega) (by rw [i64_iff, e2]; omega) (by rw [ByteArray.size_append, hs]; omega)
      simp only [loop28, if_pos hx]
      exact this
    · rw [if_neg (by simp; omega)]
      simp only [loop28, if_neg hx]
      exact ⟨by omega, trivial⟩

def g28_0 (x0 : Int) : ByteArray := if x0 ≤ 0 then ByteArray.mk #[109, 48] else ByteArray.mk #[109] ++ loop28 19 (ByteArray.mk #[]) x0
def P28 (x0 : Int) : Prop := True

theorem top28 (x0 : Int) (hi : InR .i64 x0) : R28 21 x0 [⟨.str, g28_0 x0⟩] := by
  rw [R28]
  unfold g28_0
  by_cases h : x0 ≤ 0
  · rw [if_pos (by simpa using h), if_pos h]
  · rw [if_neg (by simpa using h), if_neg h]
    have hi' := hi
    rw [i64_iff] at hi'
    exact run28 19 _ x0 (by omega) hi (by decide)

def S28 : Am.Spec := { sig := sig28, pre := fun ⟨x0, _⟩ => P28 x0, res := fun ⟨x0, _⟩ => [⟨.str, g28_0 x0⟩] }
theorem con28 : Contract Try.prog 28 S28 := contract_of Try.func28 hb28 (Nat.le_of_ble_eq_true (by kernel_rfl)) (fun ⟨x0, _⟩ h hwf w0 O q =>
  (snd28 _).1 x0 _ (top28 x0 hwf.1) w0 O q)

end Go.Proofs.Ytakodkjcmacofaa

/- Function 10 (laws.markBlockS): its runs between cut points. Written by a program of this repo (gen). -/
set_option linter.unusedVariables false
set_option linter.unusedSimpArgs false
set_option maxRecDepth 100000
namespace Go.Proofs.Ytakodkjcmacofaa
open Go Go.Am Go.Proofs
def ext10 : Ext := [(28, S28)]
theorem call10_28 : Callable Try.prog 28 := ⟨Try.f28, Try.func28, by kernel_rfl, by kernel_rfl⟩
theorem ext10Ok : ExtOk Try.prog ext10 := ⟨⟨call10_28, con28⟩, trivial⟩
/-! Function 10. -/
noncomputable def b10 : Code := bodyOf Try.f10
theorem hb10 : Try.f10.body = some b10 := by kernel_rfl
def sig10 : List AT := [AT.own (Ty.cons Ty.str (Ty.cons Ty.str (Ty.cons Ty.str Ty.unit))), AT.v (Ty.int IntKind.i64)]
def tys10 : List Ty := [Ty.int IntKind.i64]
def E10_2 (v5 : Int) (x1 : Int) (x0 : List (ByteArray × ByteArray × ByteArray × Unit)) : Env := [(0, PV.a (Atom.osl 0 Option.none)), (1, PV.a (Atom.val (Value.int IntKind.i64 x1))), (5, PV.a (Atom.val (Value.int IntKind.i64 v5)))]
def L10_2 (v5 : Int) (x1 : Int) (x0 : List (ByteArray × ByteArray × ByteArray × Unit)) : Heap := [Option.some (Arr.mk (Ty.cons Ty.str (Ty.cons Ty.str (Ty.cons Ty.str Ty.unit))) x0 Bool.false)]
mutual
def R10 : Nat → List (ByteArray × ByteArray × ByteArray × Unit) → Int → List Dyn → List (Option Lst) → Prop
  | 0, _, _, _, _ => False
  | n + 1, x0, x1, ds, us => (R10_2 n (0) (x1) (x0) ds us)
def R10_2 : Nat → Int → Int → List (ByteArray × ByteArray × ByteArray × Unit) → List Dyn → List (Option Lst) → Prop
  | 0, _, _, _, _, _ => False
  | n + 1, v5, x1, x0, ds, us => (if (Decidable.decide (v5 < (↑(List.length x0) : Int))) = true then ((0 ≤ v5) ∧ (v5 < (↑(List.length x0) : Int)) ∧ ((InR IntKind.i64 (x1 + 1)) ∧ ((0 ≤ v5) ∧ (v5 < (↑(List.length (List.set x0 (Int.toNat v5) (g28_0 x1, Prod.snd (List.getD x0 (Int.toNat v5) (ByteArray.empty, ByteArray.empty, ByteArray.empty, ()))))) : Int)) ∧ ((InR IntKind.i64 (x1 + 1 + 1)) ∧ ((0 ≤ v5) ∧ (v5 < (↑(List.length (List.set (List.set x0 (Int.toNat v5) (g28_0 x1, Prod.snd (List.getD x0 (Int.toNat v5) (ByteArray.empty, ByteArray.empty, ByteArray.empty, ())))) (Int.toNat v5) (Prod.fst (List.getD (List.set x0 (Int.toNat v5) (g28_0 x1, Prod.snd (List.getD x0 (Int.toNat v5) (ByteArray.empty, ByteArray.empty, ByteArray.empty, ())))) (Int.toNat v5) (ByteArray.empty, ByteArray.empty, ByteArray.empty, ())), g28_0 (x1 + 1), Prod.snd (Prod.snd (List.getD (List.set x0 (Int.toNat v5) (g28_0 x1, Prod.snd (List.getD x0 (Int.toNat v5) (ByteArray.empty, ByteArray.empty, ByteArray.empty, ())))) (Int.toNat v5) (ByteArray.empty, ByteArray.empty, ByteArray.empty, ())))))) : Int)) ∧ ((InR IntKind.i64 (x1 + 1 + 1 + 1)) ∧ ((InR IntKind.i64 (v5 + 1)) ∧ (R10_2 n (v5 + 1) (x1 + 1 + 1 + 1) (List.set (List.set (List.set x0 (Int.toNat v5) (g28_0 x1, Prod.snd (List.getD x0 (Int.toNat v5) (ByteArray.empty, ByteArray.empty, ByteArray.empty, ())))) (Int.toNat v5) (Prod.fst (List.getD (List.set x0 (Int.toNat v5) (g28_0 x1, Prod.snd (List.getD x0 (Int.toNat v5) (ByteArray.empty, ByteArray.empty, ByteArray.empty, ())))) (Int.toNat v5) (ByteArray.empty, ByteArray.empty, ByteArray.empty, ())), g28_0 (x1 + 1), Prod.snd (Prod.snd (List.getD (List.set x0 (Int.toNat v5) (g28_0 x1, Prod.snd (List.getD x0 (Int.toNat v5) (ByteArray.empty, ByteArray.empty, ByteArray.empty, ())))) (Int.toNat v5) (ByteArray.empty, ByteArray.empty, ByteArray.empty, ()))))) (Int.toNat v5) (Prod.fst (List.getD (List.set (List.set x0 (Int.toNat v5) (g28_0 x1, Prod.snd (List.getD x0 (Int.toNat v5) (ByteArray.empty, ByteArray.empty, ByteArray.empty, ())))) (Int.toNat v5) (Prod.fst (List.getD (List.set x0 (Int.toNat v5) (g28_0 x1, Prod.snd (List.getD x0 (Int.toNat v5) (ByteArray.empty, ByteArray.empty, ByteArray.empty, ())))) (Int.toNat v5) (ByteArray.empty, ByteArray.empty, ByteArray.empty, ())), g28_0 (x1 + 1), Prod.snd (Prod.snd (List.getD (List.set x0 (Int.toNat v5) (g28_0 x1, Prod.snd (List.getD x0 (Int.toNat v5) (ByteArray.empty, ByteArray.empty, ByteArray.empty, ())))) (Int.toNat v5) (ByteArray.empty, ByteArray.empty, ByteArray.empty, ()))))) (Int.toNat v5) (ByteArray.empty, ByteArray.empty, ByteArray.empty, ())), Prod.fst (Prod.snd (List.getD (List.set (List.set x0 (Int.toNat v5) (g28_0 x1, Prod.snd (List.getD x0 (Int.toNat v5) (ByteArray.empty, ByteArray.empty, ByteArray.empty, ())))) (Int.toNat v5) (Prod.fst (List.getD (List.set x0 (Int.toNat v5) (g28_0 x1, Prod.snd (List.getD x0 (Int.toNat v5) (ByteArray.empty, ByteArray.empty, ByteArray.empty, ())))) (Int.toNat v5) (ByteArray.empty, ByteArray.empty, ByteArray.empty, ())), g28_0 (x1 + 1), Prod.snd (Prod.snd (List.getD (List.set x0 (Int.toNat v5) (g28_0 x1, Prod.snd (List.getD x0 (Int.toNat v5) (ByteArray.empty, ByteArray.empty, ByteArray.empty, ())))) (Int.toNat v5) (ByteArray.empty, ByteArray.empty, ByteArray.empty, ()))))) (Int.toNat v5) (ByteArray.empty, ByteArray.empty, ByteArray.empty, ()))), g28_0 (x1 + 1 + 1), Prod.snd (Prod.snd (Prod.snd (List.getD (List.set (List.set x0 (Int.toNat v5) (g28_0 x1, Prod.snd (List.getD x0 (Int.toNat v5) (ByteArray.empty, ByteArray.empty, ByteArray.empty, ())))) (Int.toNat v5) (Prod.fst (List.getD (List.set x0 (Int.toNat v5) (g28_0 x1, Prod.snd (List.getD x0 (Int.toNat v5) (ByteArray.empty, ByteArray.empty, ByteArray.empty, ())))) (Int.toNat v5) (ByteArray.empty, ByteArray.empty, ByteArray.empty, ())), g28_0 (x1 + 1), Prod.snd (Prod.snd (List.getD (List.set x0 (Int.toNat v5) (g28_0 x1, Prod.snd (List.getD x0 (Int.toNat v5) (ByteArray.empty, ByteArray.empty, ByteArray.empty, ())))) (Int.toNat v5) (ByteArray.empty, ByteArray.empty, ByteArray.empty, ()))))) (Int.toNat v5) (ByteArray.empty, ByteArray.empty, ByteArray.empty, ())))))) ds us)))))))) else (ds = [Dyn.mk (Ty.int IntKind.i64) x1] ∧ us = [Option.some (Lst.mk (Ty.cons Ty.str (Ty.cons Ty.str (Ty.cons Ty.str Ty.unit))) x0)]))
end
theorem p10_0 (x0 : List (ByteArray × ByteArray × ByteArray × Unit)) (x1 : Int) : Am.runN tab ext10 false 37 [] 2000 [0] [] [0, 1, 5] [0] [] [.code b10] (entE 0 0 sig10 (x0, x1, ())) (entL sig10 (x0, x1, ())) = some (cutAt b10 2, E10_2 (0) (x1) (x0), L10_2 (0) (x1) (x0), []) := by kernel_rfl
theorem p10_1 (v5 : Int) (x1 : Int) (x0 : List (ByteArray × ByteArray × ByteArray × Unit)) : Am.runN tab ext10 false 37 [] 2000 [0] [] [0, 1, 5] [0] [true] (cutAt b10 2) (E10_2 v5 x1 x0) (L10_2 v5 x1 x0) = some (cutAt b10 2, E10_2 (v5 + 1) (x1 + 1 + 1 + 1) (List.set (List.set (List.set x0 (Int.toNat v5) (g28_0 x1, Prod.snd (List.getD x0 (Int.toNat v5) (ByteArray.empty, ByteArray.empty, ByteArray.empty, ())))) (Int.toNat v5) (Prod.fst (List.getD (List.set x0 (Int.toNat v5) (g28_0 x1, Prod.snd (List.getD x0 (Int.toNat v5) (ByteArray.empty, ByteArray.empty, ByteArray.empty, ())))) (Int.toNat v5) (ByteArray.empty, ByteArray.empty, ByteArray.empty, ())), g28_0 (x1 + 1), Prod.snd (Prod.snd (List.getD (List.set x0 (Int.toNat v5) (g28_0 x1, Prod.snd (List.getD x0 (Int.toNat v5) (ByteArray.empty, ByteArray.empty, ByteArray.empty, ())))) (Int.toNat v5) (ByteArray.empty, ByteArray.empty, ByteArray.empty, ()))))) (Int.toNat v5) (Prod.fst (List.getD (List.set (List.set x0 (Int.toNat v5) (g28_0 x1, Prod.snd (List.getD x0 (Int.toNat v5) (ByteArray.empty, ByteArray.empty, ByteArray.empty, ())))) (Int.toNat v5) (Prod.fst (List.getD (List.set x0 (Int.toNat v5) (g28_0 x1, Prod.snd (List.getD x0 (Int.toNat v5) (ByteArray.empty, ByteArray.empty, ByteArray.empty, ())))) (Int.toNat v5) (ByteArray.empty, ByteArray.empty, ByteArray.empty, ())), g28_0 (x1 + 1), Prod.snd (Prod.snd (List.getD (List.set x0 (Int.toNat v5) (g28_0 x1, Prod.snd (List.getD x0 (Int.toNat v5) (ByteArray.empty, ByteArray.empty, ByteArray.empty, ())))) (Int.toNat v5) (ByteArray.empty, ByteArray.empty, ByteArray.empty, ()))))) (Int.toNat v5) (ByteArray.empty, ByteArray.empty, ByteArray.empty, ())), Prod.fst (Prod.snd (List.getD (List.set (List.set x0 (Int.toNat v5) (g28_0 x1, Prod.snd (List.getD x0 (Int.toNat v5) (ByteArray.empty, ByteArray.empty, ByteArray.empty, ())))) (Int.toNat v5) (Prod.fst (List.getD (List.set x0 (Int.toNat v5) (g28_0 x1, Prod.snd (List.getD x0 (Int.toNat v5) (ByteArray.empty, ByteArray.empty, ByteArray.empty, ())))) (Int.toNat v5) (ByteArray.empty, ByteArray.empty, ByteArray.empty, ())), g28_0 (x1 + 1), Prod.snd (Prod.snd (List.getD (List.set x0 (Int.toNat v5) (g28_0 x1, Prod.snd (List.getD x0 (Int.toNat v5) (ByteArray.empty, ByteArray.empty, ByteArray.empty, ())))) (Int.toNat v5) (ByteArray.empty, ByteArray.empty, ByteArray.empty, ()))))) (Int.toNat v5) (ByteArray.empty, ByteArray.empty, ByteArray.empty, ()))), g28_0 (x1 + 1 + 1), Prod.snd (Prod.snd (Prod.snd (List.getD (List.set (List.set x0 (Int.toNat v5) (g28_0 x1, Prod.snd (List.getD x0 (Int.toNat v5) (ByteArray.empty, ByteArray.empty, ByteArray.empty, ())))) (Int.toNat v5) (Prod.fst (List.getD (List.set x0 (Int.toNat v5) (g28_0 x1, Prod.snd (List.getD x0 (Int.toNat v5) (ByteArray.empty, ByteArray.empty, ByteArray.empty, ())))) (Int.toNat v5) (ByteArray.empty, ByteArray.empty, ByteArray.empty, ())), g28_0 (x1 + 1), Prod.snd (Prod.snd (List.getD (List.set x0 (Int.toNat v5) (g28_0 x1, Prod.snd (List.getD x0 (Int.toNat v5) (ByteArray.empty, ByteArray.empty, ByteArray.empty, ())))) (Int.toNat v5) (ByteArray.empty, ByteArray.empty, ByteArray.empty, ()))))) (Int.toNat v5) (ByteArray.empty, ByteArray.empty, ByteArray.empty, ())))))), L10_2 (v5 + 1) (x1 + 1 + 1 + 1) (List.set (List.set (List.set x0 (Int.toNat v5) (g28_0 x1, Prod.snd (List.getD x0 (Int.toNat v5) (ByteArray.empty, ByteArray.empty, ByteArray.empty, ())))) (Int.toNat v5) (Prod.fst (List.getD (List.set x0 (Int.toNat v5) (g28_0 x1, Prod.snd (List.getD x0 (Int.toNat v5) (ByteArray.empty, ByteArray.empty, ByteArray.empty, ())))) (Int.toNat v5) (ByteArray.empty, ByteArray.empty, ByteArray.empty, ())), g28_0 (x1 + 1), Prod.snd (Prod.snd (List.getD (List.set x0 (Int.toNat v5) (g28_0 x1, Prod.snd (List.getD x0 (Int.toNat v5) (ByteArray.empty, ByteArray.empty, ByteArray.empty, ())))) (Int.toNat v5) (ByteArray.empty, ByteArray.empty, ByteArray.empty, ()))))) (Int.toNat v5) (Prod.fst (List.getD (List.set (List.set x0 (Int.toNat v5) (g28_0 x1, Prod.snd (List.getD x0 (Int.toNat v5) (ByteArray.empty, ByteArray.empty, ByteArray.empty, ())))) (Int.toNat v5) (Prod.fst (List.getD (List.set x0 (Int.toNat v5) (g28_0 x1, Prod.snd (List.getD x0 (Int.toNat v5) (ByteArray.empty, ByteArray.empty, ByteArray.empty, ())))) (Int.toNat v5) (ByteArray.empty, ByteArray.empty, ByteArray.empty, ())), g28_0 (x1 + 1), Prod.snd (Prod.snd (List.getD (List.set x0 (Int.toNat v5) (g28_0 x1, Prod.snd (List.getD x0 (Int.toNat v5) (ByteArray.empty, ByteArray.empty, ByteArray.empty, ())))) (Int.toNat v5) (ByteArray.empty, ByteArray.empty, ByteArray.empty, ()))))) (Int.toNat v5) (ByteArray.empty, ByteArray.empty, ByteArray.empty, ())), Prod.fst (Prod.snd (List.getD (List.set (List.set x0 (Int.toNat v5) (g28_0 x1, Prod.snd (List.getD x0 (Int.toNat v5) (ByteArray.empty, ByteArray.empty, ByteArray.empty, ())))) (Int.toNat v5) (Prod.fst (List.getD (List.set x0 (Int.toNat v5) (g28_0 x1, Prod.snd (List.getD x0 (Int.toNat v5) (ByteArray.empty, ByteArray.empty, ByteArray.empty, ())))) (Int.toNat v5) (ByteArray.empty, ByteArray.empty, ByteArray.empty, ())), g28_0 (x1 + 1), Prod.snd (Prod.snd (List.getD (List.set x0 (Int.toNat v5) (g28_0 x1, Prod.snd (List.getD x0 (Int.toNat v5) (ByteArray.empty, ByteArray.empty, ByteArray.empty, ())))) (Int.toNat v5) (ByteArray.empty, ByteArray.empty, ByteArray.empty, ()))))) (Int.toNat v5) (ByteArray.empty, ByteArray.empty, ByteArray.empty, ()))), g28_0 (x1 + 1 + 1), Prod.snd (Prod.snd (Prod.snd (List.getD (List.set (List.set x0 (Int.toNat v5) (g28_0 x1, Prod.snd (List.getD x0 (Int.toNat v5) (ByteArray.empty, ByteArray.empty, ByteArray.empty, ())))) (Int.toNat v5) (Prod.fst (List.getD (List.set x0 (Int.toNat v5) (g28_0 x1, Prod.snd (List.getD x0 (Int.toNat v5) (ByteArray.empty, ByteArray.empty, ByteArray.empty, ())))) (Int.toNat v5) (ByteArray.empty, ByteArray.empty, ByteArray.empty, ())), g28_0 (x1 + 1), Prod.snd (Prod.snd (List.getD (List.set x0 (Int.toNat v5) (g28_0 x1, Prod.snd (List.getD x0 (Int.toNat v5) (ByteArray.empty, ByteArray.empty, ByteArray.empty, ())))) (Int.toNat v5) (ByteArray.empty, ByteArray.empty, ByteArray.empty, ()))))) (Int.toNat v5) (ByteArray.empty, ByteArray.empty, ByteArray.empty, ())))))), [Decidable.decide (v5 < (↑(List.length x0) : Int)) = Bool.true, True, 0 ≤ v5, v5 < (↑(List.length x0) : Int), InR IntKind.i64 (x1 + 1), True, 0 ≤ v5, v5 < (↑(List.length (List.set x0 (Int.toNat v5) (g28_0 x1, Prod.snd (List.getD x0 (Int.toNat v5) (ByteArray.empty, ByteArray.empty, ByteArray.empty, ()))))) : Int), InR IntKind.i64 (x1 + 1 + 1), True, 0 ≤ v5, v5 < (↑(List.length (List.set (List.set x0 (Int.toNat v5) (g28_0 x1, Prod.snd (List.getD x0 (Int.toNat v5) (ByteArray.empty, ByteArray.empty, ByteArray.empty, ())))) (Int.toNat v5) (Prod.fst (List.getD (List.set x0 (Int.toNat v5) (g28_0 x1, Prod.snd (List.getD x0 (Int.toNat v5) (ByteArray.empty, ByteArray.empty, ByteArray.empty, ())))) (Int.toNat v5) (ByteArray.empty, ByteArray.empty, ByteArray.empty, ())), g28_0 (x1 + 1), Prod.snd (Prod.snd (List.getD (List.set x0 (Int.toNat v5) (g28_0 x1, Prod.snd (List.getD x0 (Int.toNat v5) (ByteArray.empty, ByteArray.empty, ByteArray.empty, ())))) (Int.toNat v5) (ByteArray.empty, ByteArray.empty, ByteArray.empty, ())))))) : Int), InR IntKind.i64 (x1 + 1 + 1 + 1), InR IntKind.i64 (v5 + 1)]) := by kernel_rfl
theorem p10_2 (v5 : Int) (x1 : Int) (x0 : List (ByteArray × ByteArray × ByteArray × Unit)) : runF tab ext10 false 37 [] 2000 [0] tys10 Try.f10.results [false] (cutAt b10 2) (E10_2 v5 x1 x0) (L10_2 v5 x1 x0) = some ([Dyn.mk (Ty.int IntKind.i64) x1], [Option.some (Lst.mk (Ty.cons Ty.str (Ty.cons Ty.str (Ty.cons Ty.str Ty.unit))) x0)], [Decidable.decide (v5 < (↑(List.length x0) : Int)) = Bool.false]) := by kernel_rfl
theorem snd10 : ∀ n, (∀ (x0 : List (ByteArray × ByteArray × ByteArray × Unit)) (x1 : Int) ds us, R10 n x0 x1 ds us → ∀ w0 O q, AtV Try.prog 10 (PostR ds us [0] q w0 O) 37 w0 O q [0] [.code b10] (entE 0 0 sig10 (x0, x1, ())) (entL sig10 (x0, x1, ()))) ∧ (∀ (v5 : Int) (x1 : Int) (x0 : List (ByteArray × ByteArray × ByteArray × Unit)) ds us, R10_2 n v5 x1 x0 ds us → ∀ w0 O q, AtV Try.prog 10 (PostR ds us [0] q w0 O) 37 w0 O q [0] (cutAt b10 2) (E10_2 v5 x1 x0) (L10_2 v5 x1 x0)) := by
  intro n
  induction n with
  | zero => exact ⟨fun _ _ _ _ h => by simp only [R10] at h, fun _ _ _ _ _ h => by simp only [R10_2] at h⟩
  | succ n ih =>
  obtain ⟨ih, ih2⟩ := ih
  refine ⟨?_, ?_⟩
  · intro x0 x1 ds us h w0 O q
    rw [R10] at h
    exact AtV.runN tabOk ext10Ok mixed (p10_0 x0 x1) trivial (ih2 _ _ _ _ _ h w0 O q)

  · intro v5 x1 x0 ds us h w0 O q
    rw [R10_2] at h
    by_cases b0 : (Decidable.decide (v5 < (↑(List.length x0) : Int))) = true
    · rw [if_pos b0] at h
      obtain ⟨s0, s1, h⟩ := h
      obtain ⟨s2, h⟩ := h
      obtain ⟨s3, s4, h⟩ := h
      obtain ⟨s5, h⟩ := h
      obtain ⟨s6, s7, h⟩ := h
      obtain ⟨s8, h⟩ := h
      obtain ⟨s9, h⟩ := h
      exact AtV.runN tabOk ext10Ok mixed (p10_1 v5 x1 x0) ⟨b0, trivial, s0, s1, s2, trivial, s3, s4, s5, trivial, s6, s7, s8, s9, trivial⟩ (ih2 _ _ _ _ _ h w0 O q)
    · rw [if_neg b0] at h
      replace b0 := Bool.eq_false_iff.2 b0
      obtain ⟨h, h'⟩ := h; subst h; subst h'
      exact AtV.fin Try.func10 tabOk ext10Ok mixed (p10_2 v5 x1 x0) ⟨b0, trivial⟩



def M10 (x1 : Int) (n : Nat) : List (ByteArray × ByteArray × ByteArray × Unit) := (List.range n).map fun (j : Nat) => (g28_0 (x1 + 3 * (j : Int)), g28_0 (x1 + 3 * (j : Int) + 1), g28_0 (x1 + 3 * (j : Int) + 1 + 1), ())

theorem M10_len (x1 : Int) (n : Nat) : (M10 x1 n).length = n := by simp [M10]

theorem M10_succ (x1 : Int) (n : Nat) : M10 x1 (n + 1) = M10 x1 n ++ [(g28_0 (x1 + 3 * (n : Int)), g28_0 (x1 + 3 * (n : Int) + 1), g28_0 (x1 + 3 * (n : Int) + 1 + 1), ())] := by
  simp [M10, List.range_succ]

theorem run10 (x0 : List (ByteArray × ByteArray × ByteArray × Unit)) (x1 : Int) (hm : x0.length ≤ maxLen) (h0 : 0 ≤ x1) (h1 : x1 + 3 * x0.length ≤ 9223372036854775807) : ∀ (k i : Nat), i + k = x0.length →
    R10_2 (k + 1) (i : Int) (x1 + 3 * (i : Int)) (M10 x1 i ++ x0.drop i) [⟨.int .i64, x1 + 3 * (x0.length : Int)⟩] [some ⟨(.cons .str (.cons .str (.cons .str .unit))), M10 x1 x0.length⟩] := by
  intro k
  induction k with
  | zero =>
    intro i hi
    have hl : (M10 x1 i ++ x0.drop i).length = x0.length := by simp [M10_len]; omega
    rw [R10_2, if_neg (by rw [hl]; simp; omega), drop_end x0 i (by omega), List.append_nil]
    have : i = x0.length := by omega
    subst this
    exact ⟨rfl, rfl⟩
  | succ k ih =>
    intro i hi
    have hl : (M10 x1 i ++ x0.drop i).length = x0.length := by simp [M10_len]; omega
    have hA := M10_len x1 i
    rw [R10_2, if_pos (by rw [hl]; simp; omega)]
    rw [drop_get x0 i (ByteArray.empty, ByteArray.empty, ByteArray.empty, ()) (by omega)] at hl ⊢
    simp only [Int.toNat_natCast, set_mid _ _ _ _ i hA, get_mid _ _ _ _ i hA]
    have hl' : ∀ y : (ByteArray × ByteArray × ByteArray × Unit), ((M10 x1 i ++ y :: x0.drop (i + 1)).length : Int) = x0.length := fun y => by rw [← hl]; simp
    simp only [hl']
    refine ⟨by omega, by omega, by rw [i64_iff]; omega, by omega, by omega, by rw [i64_iff]; omega, by omega, by omega, by rw [i64_iff]; omega, inR_up hm (by omega), ?_⟩
    have hx : x1 + 3 * (i : Int) + 1 + 1 + 1 = x1 + 3 * ((i + 1 : Nat) : Int) := by omega
    have := ih (i + 1) (by omega)
    rw [M10_succ, List.append_assoc] at this
    rw [hx]
    simpa using this

def P10 (x0 : List (ByteArray × ByteArray × ByteArray × Unit)) (x1 : Int) : Prop := 0 ≤ x1 ∧ x1 + 3 * x0.length ≤ 9223372036854775807
def g10_0 (x0 : List (ByteArray × ByteArray × ByteArray × Unit)) (x1 : Int) : Int := x1 + 3 * (x0.length : Int)
def u10_0 (x0 : List (ByteArray × ByteArray × ByteArray × Unit)) (x1 : Int) : List (ByteArray × ByteArray × ByteArray × Unit) := M10 x1 x0.length

theorem top10 (x0 : List (ByteArray × ByteArray × ByteArray × Unit)) (x1 : Int) (hm : x0.length ≤ maxLen) (h : P10 x0 x1) : R10 (x0.length + 1 + 1) x0 x1 [⟨.int .i64, g10_0 x0 x1⟩] [some ⟨(.cons .str (.cons .str (.cons .str .unit))), u10_0 x0 x1⟩] := by
  rw [R10]
  have := run10 x0 x1 hm h.1 h.2 x0.length 0 (by omega)
  simpa [M10, g10_0, u10_0] using this

def S10 : Am.Spec := { sig := sig10, pre := fun ⟨x0, x1, _⟩ => P10 x0 x1, upd := fun ⟨x0, x1, _⟩ => [some ⟨(.cons .str (.cons .str (.cons .str .unit))), u10_0 x0 x1⟩], res := fun ⟨x0, x1, _⟩ => [⟨.int .i64, g10_0 x0 x1⟩] }
theorem con10 : Contract Try.prog 10 S10 := contract_of Try.func10 hb10 (Nat.le_of_ble_eq_true (by kernel_rfl)) (fun ⟨x0, x1, _⟩ h hwf w0 O q =>
  (snd10 _).1 x0 x1 _ _ (top10 x0 x1 hwf.1.1 h) w0 O q)

end Go.Proofs.Ytakodkjcmacofaa

/- Function 11 (laws.heldBlockS): its runs between cut points. Written by a program of this repo (gen). -/
set_option linter.unusedVariables false
set_option linter.unusedSimpArgs false
set_option maxRecDepth 100000
namespace Go.Proofs.Ytakodkjcmacofaa
open Go Go.Am Go.Proofs
def ext11 : Ext := [(28, S28)]
theorem call11_28 : Callable Try.prog 28 := ⟨Try.f28, Try.func28, by kernel_rfl, by kernel_rfl⟩
theorem ext11Ok : ExtOk Try.prog ext11 := ⟨⟨call11_28, con28⟩, trivial⟩
/-! Function 11. -/
noncomputable def b11 : Code := bodyOf Try.f11
theorem hb11 : Try.f11.body = some b11 := by kernel_rfl
def sig11 : List AT := [AT.v (Ty.sl (Ty.cons Ty.str (Ty.cons Ty.str (Ty.cons Ty.str Ty.unit)))), AT.v (Ty.int IntKind.i64)]
def tys11 : List Ty := [Ty.int IntKind.i64]
def E11_2 (v5 : Int) (x0 : List (ByteArray × ByteArray × ByteArray × Unit)) (x1 : Int) : Env := [(0, PV.a (Atom.sl (Ty.cons Ty.str (Ty.cons Ty.str (Ty.cons Ty.str Ty.unit))) x0)), (1, PV.a (Atom.val (Value.int IntKind.i64 x1))), (5, PV.a (Atom.val (Value.int IntKind.i64 v5)))]
def L11_2 (v5 : Int) (x0 : List (ByteArray × ByteArray × ByteArray × Unit)) (x1 : Int) : Heap := []
mutual
def R11 : Nat → List (ByteArray × ByteArray × ByteArray × Unit) → Int → List Dyn → Prop
  | 0, _, _, _ => False
  | n + 1, x0, x1, ds => (R11_2 n (0) (x0) (x1) ds)
def R11_2 : Nat → Int → List (ByteArray × ByteArray × ByteArray × Unit) → Int → List Dyn → Prop
  | 0, _, _, _, _ => False
  | n + 1, v5, x0, x1, ds => (if (Decidable.decide (v5 < (↑(List.length x0) : Int))) = true then ((0 ≤ v5) ∧ (v5 < (↑(List.length x0) : Int)) ∧ (if (!ByteArray.toList (Prod.fst (List.getD x0 (Int.toNat v5) (ByteArray.empty, ByteArray.empty, ByteArray.empty, ()))) == ByteArray.toList (g28_0 x1)) = true then (ds = [Dyn.mk (Ty.int IntKind.i64) (-1)]) else ((InR IntKind.i64 (x1 + 1)) ∧ ((0 ≤ v5) ∧ (v5 < (↑(List.length x0) : Int)) ∧ (if (!ByteArray.toList (Prod.fst (Prod.snd (List.getD x0 (Int.toNat v5) (ByteArray.empty, ByteArray.empty, ByteArray.empty, ())))) == ByteArray.toList (g28_0 (x1 + 1))) = true then (ds = [Dyn.mk (Ty.int IntKind.i64) (-1)]) else ((InR IntKind.i64 (x1 + 1 + 1)) ∧ ((0 ≤ v5) ∧ (v5 < (↑(List.length x0) : Int)) ∧ (if (!ByteArray.toList (Prod.fst (Prod.snd (Prod.snd (List.getD x0 (Int.toNat v5) (ByteArray.empty, ByteArray.empty, ByteArray.empty, ()))))) == ByteArray.toList (g28_0 (x1 + 1 + 1))) = true then (ds = [Dyn.mk (Ty.int IntKind.i64) (-1)]) else ((InR IntKind.i64 (x1 + 1 + 1 + 1)) ∧ ((InR IntKind.i64 (v5 + 1)) ∧ (R11_2 n (v5 + 1) (x0) (x1 + 1 + 1 + 1) ds))))))))))) else (ds = [Dyn.mk (Ty.int IntKind.i64) x1]))
end
theorem p11_0 (x0 : List (ByteArray × ByteArray × ByteArray × Unit)) (x1 : Int) : Am.runN tab ext11 false 43 [] 2000 [] [] [0, 1, 5] [] [] [.code b11] (entE 0 0 sig11 (x0, x1, ())) (entL sig11 (x0, x1, ())) = some (cutAt b11 2, E11_2 (0) (x0) (x1), L11_2 (0) (x0) (x1), []) := by kernel_rfl
theorem p11_1 (v5 : Int) (x0 : List (ByteArray × ByteArray × ByteArray × Unit)) (x1 : Int) : runF tab ext11 false 43 [] 2000 [] tys11 Try.f11.results [true, true] (cutAt b11 2) (E11_2 v5 x0 x1) (L11_2 v5 x0 x1) = some ([Dyn.mk (Ty.int IntKind.i64) (-1)], [], [Decidable.decide (v5 < (↑(List.length x0) : Int)) = Bool.true, 0 ≤ v5, v5 < (↑(List.length x0) : Int), True, (!ByteArray.toList (Prod.fst (List.getD x0 (Int.toNat v5) (ByteArray.empty, ByteArray.empty, ByteArray.empty, ()))) == ByteArray.toList (g28_0 x1)) = Bool.true]) := by kernel_rfl
theorem p11_2 (v5 : Int) (x0 : List (ByteArray × ByteArray × ByteArray × Unit)) (x1 : Int) : runF tab ext11 false 43 [] 2000 [] tys11 Try.f11.results [true, false, true] (cutAt b11 2) (E11_2 v5 x0 x1) (L11_2 v5 x0 x1) = some ([Dyn.mk (Ty.int IntKind.i64) (-1)], [], [Decidable.decide (v5 < (↑(List.length x0) : Int)) = Bool.true, 0 ≤ v5, v5 < (↑(List.length x0) : Int), True, (!ByteArray.toList (Prod.fst (List.getD x0 (Int.toNat v5) (ByteArray.empty, ByteArray.empty, ByteArray.empty, ()))) == ByteArray.toList (g28_0 x1)) = Bool.false, InR IntKind.i64 (x1 + 1), 0 ≤ v5, v5 < (↑(List.length x0) : Int), True, (!ByteArray.toList (Prod.fst (Prod.snd (List.getD x0 (Int.toNat v5) (ByteArray.empty, ByteArray.empty, ByteArray.empty, ())))) == ByteArray.toList (g28_0 (x1 + 1))) = Bool.true]) := by kernel_rfl
theorem p11_3 (v5 : Int) (x0 : List (ByteArray × ByteArray × ByteArray × Unit)) (x1 : Int) : runF tab ext11 false 43 [] 2000 [] tys11 Try.f11.results [true, false, false, true] (cutAt b11 2) (E11_2 v5 x0 x1) (L11_2 v5 x0 x1) = some ([Dyn.mk (Ty.int IntKind.i64) (-1)], [], [Decidable.decide (v5 < (↑(List.length x0) : Int)) = Bool.true, 0 ≤ v5, v5 < (↑(List.length x0) : Int), True, (!ByteArray.toList (Prod.fst (List.getD x0 (Int.toNat v5) (ByteArray.empty, ByteArray.empty, ByteArray.empty, ()))) == ByteArray.toList (g28_0 x1)) = Bool.false, InR IntKind.i64 (x1 + 1), 0 ≤ v5, v5 < (↑(List.length x0) : Int), True, (!ByteArray.toList (Prod.fst (Prod.snd (List.getD x0 (Int.toNat v5) (ByteArray.empty, ByteArray.empty, ByteArray.empty, ())))) == ByteArray.toList (g28_0 (x1 + 1))) = Bool.false, InR IntKind.i64 (x1 + 1 + 1), 0 ≤ v5, v5 < (↑(List.length x0) : Int), True, (!ByteArray.toList (Prod.fst (Prod.snd (Prod.snd (List.getD x0 (Int.toNat v5) (ByteArray.empty, ByteArray.empty, ByteArray.empty, ()))))) == ByteArray.toList (g28_0 (x1 + 1 + 1))) = Bool.true]) := by kernel_rfl
theorem p11_4 (v5 : Int) (x0 : List (ByteArray × ByteArray × ByteArray × Unit)) (x1 : Int) : Am.runN tab ext11 false 43 [] 2000 [] [] [0, 1, 5] [] [true, false, false, false] (cutAt b11 2) (E11_2 v5 x0 x1) (L11_2 v5 x0 x1) = some (cutAt b11 2, E11_2 (v5 + 1) (x0) (x1 + 1 + 1 + 1), L11_2 (v5 + 1) (x0) (x1 + 1 + 1 + 1), [Decidable.decide (v5 < (↑(List.length x0) : Int)) = Bool.true, 0 ≤ v5, v5 < (↑(List.length x0) : Int), True, (!ByteArray.toList (Prod.fst (List.getD x0 (Int.toNat v5) (ByteArray.empty, ByteArray.empty, ByteArray.empty, ()))) == ByteArray.toList (g28_0 x1)) = Bool.false, InR IntKind.i64 (x1 + 1), 0 ≤ v5, v5 < (↑(List.length x0) : Int), True, (!ByteArray.toList (Prod.fst (Prod.snd (List.getD x0 (Int.toNat v5) (ByteArray.empty, ByteArray.empty, ByteArray.empty, ())))) == ByteArray.toList (g28_0 (x1 + 1))) = Bool.false, InR IntKind.i64 (x1 + 1 + 1), 0 ≤ v5, v5 < (↑(List.length x0) : Int), True, (!ByteArray.toList (Prod.fst (Prod.snd (Prod.snd (List.getD x0 (Int.toNat v5) (ByteArray.empty, ByteArray.empty, ByteArray.empty, ()))))) == ByteArray.toList (g28_0 (x1 + 1 + 1))) = Bool.false, InR IntKind.i64 (x1 + 1 + 1 + 1), InR IntKind.i64 (v5 + 1)]) := by kernel_rfl
theorem p11_5 (v5 : Int) (x0 : List (ByteArray × ByteArray × ByteArray × Unit)) (x1 : Int) : runF tab ext11 false 43 [] 2000 [] tys11 Try.f11.results [false] (cutAt b11 2) (E11_2 v5 x0 x1) (L11_2 v5 x0 x1) = some ([Dyn.mk (Ty.int IntKind.i64) x1], [], [Decidable.decide (v5 < (↑(List.length x0) : Int)) = Bool.false]) := by kernel_rfl
theorem snd11 : ∀ n, (∀ (x0 : List (ByteArray × ByteArray × ByteArray × Unit)) (x1 : Int) ds, R11 n x0 x1 ds → ∀ w0 O q, AtV Try.prog 11 (PostR ds [] [] q w0 O) 43 w0 O q [] [.code b11] (entE 0 0 sig11 (x0, x1, ())) (entL sig11 (x0, x1, ()))) ∧ (∀ (v5 : Int) (x0 : List (ByteArray × ByteArray × ByteArray × Unit)) (x1 : Int) ds, R11_2 n v5 x0 x1 ds → ∀ w0 O q, AtV Try.prog 11 (PostR ds [] [] q w0 O) 43 w0 O q [] (cutAt b11 2) (E11_2 v5 x0 x1) (L11_2 v5 x0 x1)) := by
  intro n
  induction n with
  | zero => exact ⟨fun _ _ _ h => by simp only [R11] at h, fun _ _ _ _ h => by simp only [R11_2] at h⟩
  | succ n ih =>
  obtain ⟨ih, ih2⟩ := ih
  refine ⟨?_, ?_⟩
  · intro x0 x1 ds h w0 O q
    rw [R11] at h
    exact AtV.runN tabOk ext11Ok mixed (p11_0 x0 x1) trivial (ih2 _ _ _ _ h w0 O q)

  · intro v5 x0 x1 ds h w0 O q
    rw [R11_2] at h
    by_cases b0 : (Decidable.decide (v5 < (↑(List.length x0) : Int))) = true
    · rw [if_pos b0] at h
      obtain ⟨s0, s1, h⟩ := h
      by_cases b1 : (!ByteArray.toList (Prod.fst (List.getD x0 (Int.toNat v5) (ByteArray.empty, ByteArray.empty, ByteArray.empty, ()))) == ByteArray.toList (g28_0 x1)) = true
      · rw [if_pos b1] at h
        subst h
        exact AtV.fin Try.func11 tabOk ext11Ok mixed (p11_1 v5 x0 x1) ⟨b0, s0, s1, trivial, b1, trivial⟩
      · rw [if_neg b1] at h
        replace b1 := Bool.eq_false_iff.2 b1
        obtain ⟨s2, h⟩ := h
        obtain ⟨s3, s4, h⟩ := h
        by_cases b2 : (!ByteArray.toList (Prod.fst (Prod.snd (List.getD x0 (Int.toNat v5) (ByteArray.empty, ByteArray.empty, ByteArray.empty, ())))) == ByteArray.toList (g28_0 (x1 + 1))) = true
        · rw [if_pos b2] at h
          subst h
          exact AtV.fin Try.func11 tabOk ext11Ok mixed (p11_2 v5 x0 x1) ⟨b0, s0, s1, trivial, b1, s2, s3, s4, trivial, b2, trivial⟩
        · rw [if_neg b2] at h
          replace b2 := Bool.eq_false_iff.2 b2
          obtain ⟨s5, h⟩ := h
          obtain ⟨s6, s7, h⟩ := h
          by_cases b3 : (!ByteArray.toList (Prod.fst (Prod.snd (Prod.snd (List.getD x0 (Int.toNat v5) (ByteArray.empty, ByteArray.empty, ByteArray.empty, ()))))) == ByteArray.toList (g28_0 (x1 + 1 + 1))) = true
          · rw [if_pos b3] at h
            subst h
            exact AtV.fin Try.func11 tabOk ext11Ok mixed (p11_3 v5 x0 x1) ⟨b0, s0, s1, trivial, b1, s2, s3, s4, trivial, b2, s5, s6, s7, trivial, b3, trivial⟩
          · rw [if_neg b3] at h
            replace b3 := Bool.eq_false_iff.2 b3
            obtain ⟨s8, h⟩ := h
            obtain ⟨s9, h⟩ := h
            exact AtV.runN tabOk ext11Ok mixed (p11_4 v5 x0 x1) ⟨b0, s0, s1, trivial, b1, s2, s3, s4, trivial, b2, s5, s6, s7, trivial, b3, s8, s9, trivial⟩ (ih2 _ _ _ _ h w0 O q)
    · rw [if_neg b0] at h
      replace b0 := Bool.eq_false_iff.2 b0
      subst h
      exact AtV.fin Try.func11 tabOk ext11Ok mixed (p11_5 v5 x0 x1) ⟨b0, trivial⟩



theorem run11 (x0 : List (ByteArray × ByteArray × ByteArray × Unit)) (x1 : Int) (hm : x0.length ≤ maxLen) (h0 : 0 ≤ x1) (h1 : x1 + 3 * x0.length ≤ 9223372036854775807) (he : ∀ i : Nat, i < x0.length → x0.getD i (ByteArray.empty, ByteArray.empty, ByteArray.empty, ()) = (g28_0 (x1 + 3 * (i : Int)), g28_0 (x1 + 3 * (i : Int) + 1), g28_0 (x1 + 3 * (i : Int) + 1 + 1), ())) : ∀ (k i : Nat), i + k = x0.length →
    R11_2 (k + 1) (i : Int) x0 (x1 + 3 * (i : Int)) [⟨.int .i64, x1 + 3 * (x0.length : Int)⟩] := by
  intro k
  induction k with
  | zero =>
    intro i hi
    rw [R11_2, if_neg (by simp; omega)]
    have : i = x0.length := by omega
    subst this
    rfl
  | succ k ih =>
    intro i hi
    rw [R11_2, if_pos (by simp; omega)]
    simp only [Int.toNat_natCast, he i (by omega)]
    have hb : ∀ y : ByteArray, (!(ByteArray.toList y == ByteArray.toList y)) = true → False := fun y h => by rw [(bytes_eq y y).2 rfl] at h; cases h
    refine ⟨by omega, by omega, ?_⟩
    rw [if_neg (hb _)]
    refine ⟨by rw [i64_iff]; omega, by omega, by omega, ?_⟩
    rw [if_neg (hb _)]
    refine ⟨by rw [i64_iff]; omega, by omega, by omega, ?_⟩
    rw [if_neg (hb _)]
    refine ⟨by rw [i64_iff]; omega, inR_up hm (by omega), ?_⟩
    have hx : x1 + 3 * (i : Int) + 1 + 1 + 1 = x1 + 3 * ((i + 1 : Nat) : Int) := by omega
    rw [hx]
    exact ih (i + 1) (by omega)

def P11 (x0 : List (ByteArray × ByteArray × ByteArray × Unit)) (x1 : Int) : Prop := (0 ≤ x1 ∧ x1 + 3 * x0.length ≤ 9223372036854775807) ∧ ∀ i : Nat, i < x0.length → x0.getD i (ByteArray.empty, ByteArray.empty, ByteArray.empty, ()) = (g28_0 (x1 + 3 * (i : Int)), g28_0 (x1 + 3 * (i : Int) + 1), g28_0 (x1 + 3 * (i : Int) + 1 + 1), ())
def g11_0 (x0 : List (ByteArray × ByteArray × ByteArray × Unit)) (x1 : Int) : Int := x1 + 3 * (x0.length : Int)

theorem top11 (x0 : List (ByteArray × ByteArray × ByteArray × Unit)) (x1 : Int) (hm : x0.length ≤ maxLen) (h : P11 x0 x1) : R11 (x0.length + 1 + 1) x0 x1 [⟨.int .i64, g11_0 x0 x1⟩] := by
  rw [R11]
  have := run11 x0 x1 hm h.1.1 h.1.2 h.2 x0.length 0 (by omega)
  simpa [g11_0] using this

def S11 : Am.Spec := { sig := sig11, pre := fun ⟨x0, x1, _⟩ => P11 x0 x1, res := fun ⟨x0, x1, _⟩ => [⟨.int .i64, g11_0 x0 x1⟩] }
theorem con11 : Contract Try.prog 11 S11 := contract_of Try.func11 hb11 (Nat.le_of_ble_eq_true (by kernel_rfl)) (fun ⟨x0, x1, _⟩ h hwf w0 O q =>
  (snd11 _).1 x0 x1 _ (top11 x0 x1 hwf.1.1 h) w0 O q)

end Go.Proofs.Ytakodkjcmacofaa

/- Function 3 (laws.FnExactMergeBlocks): its runs between cut points. Written by a program of this repo (gen). -/
set_option linter.unusedVariables false
set_option linter.unusedSimpArgs false
set_option maxRecDepth 100000
namespace Go.Proofs.Ytakodkjcmacofaa
open Go Go.Am Go.Proofs
def ext3 : Ext := [(5, S5), (7, S7), (6, S6), (8, S8), (9, S9), (10, S10), (11, S11)]
theorem call3_5 : Callable Try.prog 5 := ⟨Try.f5, Try.func5, by kernel_rfl, by kernel_rfl⟩
theorem call3_7 : Callable Try.prog 7 := ⟨Try.f7, Try.func7, by kernel_rfl, by kernel_rfl⟩
theorem call3_6 : Callable Try.prog 6 := ⟨Try.f6, Try.func6, by kernel_rfl, by kernel_rfl⟩
theorem call3_8 : Callable Try.prog 8 := ⟨Try.f8, Try.func8, by kernel_rfl, by kernel_rfl⟩
theorem call3_9 : Callable Try.prog 9 := ⟨Try.f9, Try.func9, by kernel_rfl, by kernel_rfl⟩
theorem call3_10 : Callable Try.prog 10 := ⟨Try.f10, Try.func10, by kernel_rfl, by kernel_rfl⟩
theorem call3_11 : Callable Try.prog 11 := ⟨Try.f11, Try.func11, by kernel_rfl, by kernel_rfl⟩
theorem ext3Ok : ExtOk Try.prog ext3 := ⟨⟨call3_5, con5⟩, ⟨call3_7, con7⟩, ⟨call3_6, con6⟩, ⟨call3_8, con8⟩, ⟨call3_9, con9⟩, ⟨call3_10, con10⟩, ⟨call3_11, con11⟩, trivial⟩
/-! Function 3. -/
noncomputable def b3 : Code := bodyOf Try.f3
theorem hb3 : Try.f3.body = some b3 := by kernel_rfl
def sig3 : List AT := [AT.v (Ty.sl (Ty.cons Ty.str (Ty.cons Ty.str (Ty.cons Ty.str Ty.unit)))), AT.v (Ty.sl (Ty.cons Ty.str (Ty.cons Ty.str (Ty.cons Ty.str Ty.unit))))]
def tys3 : List Ty := [Ty.bool]
def P3 (x0 : List (ByteArray × ByteArray × ByteArray × Unit)) (x1 : List (ByteArray × ByteArray × ByteArray × Unit)) : Prop := ((P5 x0 1048576) ∧ (if (Decidable.decide (g5_0 x0 1048576 < 0)) = true then True else ((P5 x1 (g5_0 x0 1048576)) ∧ (if (Decidable.decide (g5_0 x1 (g5_0 x0 1048576) < 0)) = true then True else ((P7 x0) ∧ ((P7 x1) ∧ ((P6 (g7_0 x0) (g7_0 x1)) ∧ ((P7 x0) ∧ ((P7 x1) ∧ ((P8 (g7_0 x0) (g7_0 x1)) ∧ (if (!g9_0 (g8_0 (g7_0 x0) (g7_0 x1)) (g6_0 (g7_0 x0) (g7_0 x1))) = true then True else (if (g8_1 (g7_0 x0) (g7_0 x1) != g6_1 (g7_0 x0) (g7_0 x1)) = true then True else ((P7 x0) ∧ (if (!g9_0 (g7_0 x0) (g7_0 x0)) = true then True else ((P7 x1) ∧ (if (!g9_0 (g7_0 x1) (g7_0 x1)) = true then True else ((P10 (g7_0 x0) 1) ∧ (List.length (u10_0 (g7_0 x0) 1) = List.length (g7_0 x0)) ∧ ((P10 (g7_0 x1) (g10_0 (g7_0 x0) 1)) ∧ (List.length (u10_0 (g7_0 x1) (g10_0 (g7_0 x0) 1)) = List.length (g7_0 x1)) ∧ (if (Decidable.decide (g10_0 (g7_0 x1) (g10_0 (g7_0 x0) 1) < 0)) = true then True else ((P10 (g8_0 (g7_0 x0) (g7_0 x1)) 1) ∧ (List.length (u10_0 (g8_0 (g7_0 x0) (g7_0 x1)) 1) = List.length (g8_0 (g7_0 x0) (g7_0 x1))) ∧ ((P11 (u10_0 (g8_0 (g7_0 x0) (g7_0 x1)) 1) 1) ∧ (if (Decidable.decide (g11_0 (u10_0 (g8_0 (g7_0 x0) (g7_0 x1)) 1) 1 < 0)) = true then True else (if (g11_0 (u10_0 (g8_0 (g7_0 x0) (g7_0 x1)) 1) 1 != g10_0 (g8_0 (g7_0 x0) (g7_0 x1)) 1) = true then True else ((P7 x0) ∧ ((P7 x1) ∧ ((P8 (g7_0 x0) (g7_0 x1)) ∧ ((P11 (u10_0 (g8_0 (g7_0 x0) (g7_0 x1)) 1) 1) ∧ True)))))))))))))))))))))))))))
def g3_0 (x0 : List (ByteArray × ByteArray × ByteArray × Unit)) (x1 : List (ByteArray × ByteArray × ByteArray × Unit)) : Bool := (if (Decidable.decide (g5_0 x0 1048576 < 0)) = true then Bool.true else (if (Decidable.decide (g5_0 x1 (g5_0 x0 1048576) < 0)) = true then Bool.true else (if (!g9_0 (g8_0 (g7_0 x0) (g7_0 x1)) (g6_0 (g7_0 x0) (g7_0 x1))) = true then Bool.false else (if (g8_1 (g7_0 x0) (g7_0 x1) != g6_1 (g7_0 x0) (g7_0 x1)) = true then Bool.false else (if (!g9_0 (g7_0 x0) (g7_0 x0)) = true then Bool.false else (if (!g9_0 (g7_0 x1) (g7_0 x1)) = true then Bool.false else (if (Decidable.decide (g10_0 (g7_0 x1) (g10_0 (g7_0 x0) 1) < 0)) = true then Bool.false else (if (Decidable.decide (g11_0 (u10_0 (g8_0 (g7_0 x0) (g7_0 x1)) 1) 1 < 0)) = true then Bool.false else (if (g11_0 (u10_0 (g8_0 (g7_0 x0) (g7_0 x1)) 1) 1 != g10_0 (g8_0 (g7_0 x0) (g7_0 x1)) 1) = true then Bool.false else Bool.true)))))))))
theorem p3_0 (x0 : List (ByteArray × ByteArray × ByteArray × Unit)) (x1 : List (ByteArray × ByteArray × ByteArray × Unit)) : runF tab ext3 false 119 [] 2000 [] tys3 Try.f3.results [true] [.code b3] (entE 0 0 sig3 (x0, x1, ())) (entL sig3 (x0, x1, ())) = some ([Dyn.mk Ty.bool Bool.true], [], [P5 x0 1048576, Decidable.decide (g5_0 x0 1048576 < 0) = Bool.true]) := by kernel_rfl
theorem p3_1 (x0 : List (ByteArray × ByteArray × ByteArray × Unit)) (x1 : List (ByteArray × ByteArray × ByteArray × Unit)) : runF tab ext3 false 119 [] 2000 [] tys3 Try.f3.results [false, true] [.code b3] (entE 0 0 sig3 (x0, x1, ())) (entL sig3 (x0, x1, ())) = some ([Dyn.mk Ty.bool Bool.true], [], [P5 x0 1048576, Decidable.decide (g5_0 x0 1048576 < 0) = Bool.false, P5 x1 (g5_0 x0 1048576), Decidable.decide (g5_0 x1 (g5_0 x0 1048576) < 0) = Bool.true]) := by kernel_rfl
theorem p3_2 (x0 : List (ByteArray × ByteArray × ByteArray × Unit)) (x1 : List (ByteArray × ByteArray × ByteArray × Unit)) : runF tab ext3 false 119 [] 2000 [] tys3 Try.f3.results [false, false, true, true] [.code b3] (entE 0 0 sig3 (x0, x1, ())) (entL sig3 (x0, x1, ())) = some ([Dyn.mk Ty.bool Bool.false], [], [P5 x0 1048576, Decidable.decide (g5_0 x0 1048576 < 0) = Bool.false, P5 x1 (g5_0 x0 1048576), Decidable.decide (g5_0 x1 (g5_0 x0 1048576) < 0) = Bool.false, P7 x0, P7 x1, P6 (g7_0 x0) (g7_0 x1), P7 x0, P7 x1, P8 (g7_0 x0) (g7_0 x1), True, (!g9_0 (g8_0 (g7_0 x0) (g7_0 x1)) (g6_0 (g7_0 x0) (g7_0 x1))) = Bool.true, Bool.true = Bool.true]) := by kernel_rfl
theorem p3_3 (x0 : List (ByteArray × ByteArray × ByteArray × Unit)) (x1 : List (ByteArray × ByteArray × ByteArray × Unit)) : runF tab ext3 false 119 [] 2000 [] tys3 Try.f3.results [false, false, false, true] [.code b3] (entE 0 0 sig3 (x0, x1, ())) (entL sig3 (x0, x1, ())) = some ([Dyn.mk Ty.bool Bool.false], [], [P5 x0 1048576, Decidable.decide (g5_0 x0 1048576 < 0) = Bool.false, P5 x1 (g5_0 x0 1048576), Decidable.decide (g5_0 x1 (g5_0 x0 1048576) < 0) = Bool.false, P7 x0, P7 x1, P6 (g7_0 x0) (g7_0 x1), P7 x0, P7 x1, P8 (g7_0 x0) (g7_0 x1), True, (!g9_0 (g8_0 (g7_0 x0) (g7_0 x1)) (g6_0 (g7_0 x0) (g7_0 x1))) = Bool.false, (g8_1 (g7_0 x0) (g7_0 x1) != g6_1 (g7_0 x0) (g7_0 x1)) = Bool.true]) := by kernel_rfl
theorem p3_4 (x0 : List (ByteArray × ByteArray × ByteArray × Unit)) (x1 : List (ByteArray × ByteArray × ByteArray × Unit)) : runF tab ext3 false 119 [] 2000 [] tys3 Try.f3.results [false, false, false, false, true] [.code b3] (entE 0 0 sig3 (x0, x1, ())) (entL sig3 (x0, x1, ())) = some ([Dyn.mk Ty.bool Bool.false], [], [P5 x0 1048576, Decidable.decide (g5_0 x0 1048576 < 0) = Bool.false, P5 x1 (g5_0 x0 1048576), Decidable.decide (g5_0 x1 (g5_0 x0 1048576) < 0) = Bool.false, P7 x0, P7 x1, P6 (g7_0 x0) (g7_0 x1), P7 x0, P7 x1, P8 (g7_0 x0) (g7_0 x1), True, (!g9_0 (g8_0 (g7_0 x0) (g7_0 x1)) (g6_0 (g7_0 x0) (g7_0 x1))) = Bool.false, (g8_1 (g7_0 x0) (g7_0 x1) != g6_1 (g7_0 x0) (g7_0 x1)) = Bool.false, P7 x0, True, (!g9_0 (g7_0 x0) (g7_0 x0)) = Bool.true]) := by kernel_rfl
theorem p3_5 (x0 : List (ByteArray × ByteArray × ByteArray × Unit)) (x1 : List (ByteArray × ByteArray × ByteArray × Unit)) : runF tab ext3 false 119 [] 2000 [] tys3 Try.f3.results [false, false, false, false, false, true] [.code b3] (entE 0 0 sig3 (x0, x1, ())) (entL sig3 (x0, x1, ())) = some ([Dyn.mk Ty.bool Bool.false], [], [P5 x0 1048576, Decidable.decide (g5_0 x0 1048576 < 0) = Bool.false, P5 x1 (g5_0 x0 1048576), Decidable.decide (g5_0 x1 (g5_0 x0 1048576) < 0) = Bool.false, P7 x0, P7 x1, P6 (g7_0 x0) (g7_0 x1), P7 x0, P7 x1, P8 (g7_0 x0) (g7_0 x1), True, (!g9_0 (g8_0 (g7_0 x0) (g7_0 x1)) (g6_0 (g7_0 x0) (g7_0 x1))) = Bool.false, (g8_1 (g7_0 x0) (g7_0 x1) != g6_1 (g7_0 x0) (g7_0 x1)) = Bool.false, P7 x0, True, (!g9_0 (g7_0 x0) (g7_0 x0)) = Bool.false, P7 x1, True, (!g9_0 (g7_0 x1) (g7_0 x1)) = Bool.true]) := by kernel_rfl
theorem p3_6 (x0 : List (ByteArray × ByteArray × ByteArray × Unit)) (x1 : List (ByteArray × ByteArray × ByteArray × Unit)) : runF tab ext3 false 119 [] 2000 [] tys3 Try.f3.results [false, false, false, false, false, false, true, true, true] [.code b3] (entE 0 0 sig3 (x0, x1, ())) (entL sig3 (x0, x1, ())) = some ([Dyn.mk Ty.bool Bool.false], [], [P5 x0 1048576, Decidable.decide (g5_0 x0 1048576 < 0) = Bool.false, P5 x1 (g5_0 x0 1048576), Decidable.decide (g5_0 x1 (g5_0 x0 1048576) < 0) = Bool.false, P7 x0, P7 x1, P6 (g7_0 x0) (g7_0 x1), P7 x0, P7 x1, P8 (g7_0 x0) (g7_0 x1), True, (!g9_0 (g8_0 (g7_0 x0) (g7_0 x1)) (g6_0 (g7_0 x0) (g7_0 x1))) = Bool.false, (g8_1 (g7_0 x0) (g7_0 x1) != g6_1 (g7_0 x0) (g7_0 x1)) = Bool.false, P7 x0, True, (!g9_0 (g7_0 x0) (g7_0 x0)) = Bool.false, P7 x1, True, (!g9_0 (g7_0 x1) (g7_0 x1)) = Bool.false, P10 (g7_0 x0) 1, List.length (u10_0 (g7_0 x0) 1) = List.length (g7_0 x0), P10 (g7_0 x1) (g10_0 (g7_0 x0) 1), List.length (u10_0 (g7_0 x1) (g10_0 (g7_0 x0) 1)) = List.length (g7_0 x1), Decidable.decide (g10_0 (g7_0 x1) (g10_0 (g7_0 x0) 1) < 0) = Bool.true, Bool.true = Bool.true, Bool.true = Bool.true]) := by kernel_rfl
theorem p3_7 (x0 : List (ByteArray × ByteArray × ByteArray × Unit)) (x1 : List (ByteArray × ByteArray × ByteArray × Unit)) : runF tab ext3 false 119 [] 2000 [] tys3 Try.f3.results [false, false, false, false, false, false, false, false, false, true] [.code b3] (entE 0 0 sig3 (x0, x1, ())) (entL sig3 (x0, x1, ())) = some ([Dyn.mk Ty.bool Bool.false], [], [P5 x0 1048576, Decidable.decide (g5_0 x0 1048576 < 0) = Bool.false, P5 x1 (g5_0 x0 1048576), Decidable.decide (g5_0 x1 (g5_0 x0 1048576) < 0) = Bool.false, P7 x0, P7 x1, P6 (g7_0 x0) (g7_0 x1), P7 x0, P7 x1, P8 (g7_0 x0) (g7_0 x1), True, (!g9_0 (g8_0 (g7_0 x0) (g7_0 x1)) (g6_0 (g7_0 x0) (g7_0 x1))) = Bool.false, (g8_1 (g7_0 x0) (g7_0 x1) != g6_1 (g7_0 x0) (g7_0 x1)) = Bool.false, P7 x0, True, (!g9_0 (g7_0 x0) (g7_0 x0)) = Bool.false, P7 x1, True, (!g9_0 (g7_0 x1) (g7_0 x1)) = Bool.false, P10 (g7_0 x0) 1, List.length (u10_0 (g7_0 x0) 1) = List.length (g7_0 x0), P10 (g7_0 x1) (g10_0 (g7_0 x0) 1), List.length (u10_0 (g7_0 x1) (g10_0 (g7_0 x0) 1)) = List.length (g7_0 x1), Decidable.decide (g10_0 (g7_0 x1) (g10_0 (g7_0 x0) 1) < 0) = Bool.false, True, (!g9_0 (g8_0 (g7_0 x0) (g7_0 x1)) (g6_0 (g7_0 x0) (g7_0 x1))) = Bool.false, (g8_1 (g7_0 x0) (g7_0 x1) != g6_1 (g7_0 x0) (g7_0 x1)) = Bool.false, P10 (g8_0 (g7_0 x0) (g7_0 x1)) 1, List.length (u10_0 (g8_0 (g7_0 x0) (g7_0 x1)) 1) = List.length (g8_0 (g7_0 x0) (g7_0 x1)), P11 (u10_0 (g8_0 (g7_0 x0) (g7_0 x1)) 1) 1, Decidable.decide (g11_0 (u10_0 (g8_0 (g7_0 x0) (g7_0 x1)) 1) 1 < 0) = Bool.true]) := by kernel_rfl
theorem p3_8 (x0 : List (ByteArray × ByteArray × ByteArray × Unit)) (x1 : List (ByteArray × ByteArray × ByteArray × Unit)) : runF tab ext3 false 119 [] 2000 [] tys3 Try.f3.results [false, false, false, false, false, false, false, false, false, false, true] [.code b3] (entE 0 0 sig3 (x0, x1, ())) (entL sig3 (x0, x1, ())) = some ([Dyn.mk Ty.bool Bool.false], [], [P5 x0 1048576, Decidable.decide (g5_0 x0 1048576 < 0) = Bool.false, P5 x1 (g5_0 x0 1048576), Decidable.decide (g5_0 x1 (g5_0 x0 1048576) < 0) = Bool.false, P7 x0, P7 x1, P6 (g7_0 x0) (g7_0 x1), P7 x0, P7 x1, P8 (g7_0 x0) (g7_0 x1), True, (!g9_0 (g8_0 (g7_0 x0) (g7_0 x1)) (g6_0 (g7_0 x0) (g7_0 x1))) = Bool.false, (g8_1 (g7_0 x0) (g7_0 x1) != g6_1 (g7_0 x0) (g7_0 x1)) = Bool.false, P7 x0, True, (!g9_0 (g7_0 x0) (g7_0 x0)) = Bool.false, P7 x1, True, (!g9_0 (g7_0 x1) (g7_0 x1)) = Bool.false, P10 (g7_0 x0) 1, List.length (u10_0 (g7_0 x0) 1) = List.length (g7_0 x0), P10 (g7_0 x1) (g10_0 (g7_0 x0) 1), List.length (u10_0 (g7_0 x1) (g10_0 (g7_0 x0) 1)) = List.length (g7_0 x1), Decidable.decide (g10_0 (g7_0 x1) (g10_0 (g7_0 x0) 1) < 0) = Bool.false, True, (!g9_0 (g8_0 (g7_0 x0) (g7_0 x1)) (g6_0 (g7_0 x0) (g7_0 x1))) = Bool.false, (g8_1 (g7_0 x0) (g7_0 x1) != g6_1 (g7_0 x0) (g7_0 x1)) = Bool.false, P10 (g8_0 (g7_0 x0) (g7_0 x1)) 1, List.length (u10_0 (g8_0 (g7_0 x0) (g7_0 x1)) 1) = List.length (g8_0 (g7_0 x0) (g7_0 x1)), P11 (u10_0 (g8_0 (g7_0 x0) (g7_0 x1)) 1) 1, Decidable.decide (g11_0 (u10_0 (g8_0 (g7_0 x0) (g7_0 x1)) 1) 1 < 0) = Bool.false, (g11_0 (u10_0 (g8_0 (g7_0 x0) (g7_0 x1)) 1) 1 != g10_0 (g8_0 (g7_0 x0) (g7_0 x1)) 1) = Bool.true]) := by kernel_rfl
theorem p3_9 (x0 : List (ByteArray × ByteArray × ByteArray × Unit)) (x1 : List (ByteArray × ByteArray × ByteArray × Unit)) : runF tab ext3 false 119 [] 2000 [] tys3 Try.f3.results [false, false, false, false, false, false, false, false, false, false, false, false, false, false, false] [.code b3] (entE 0 0 sig3 (x0, x1, ())) (entL sig3 (x0, x1, ())) = some ([Dyn.mk Ty.bool Bool.true], [], [P5 x0 1048576, Decidable.decide (g5_0 x0 1048576 < 0) = Bool.false, P5 x1 (g5_0 x0 1048576), Decidable.decide (g5_0 x1 (g5_0 x0 1048576) < 0) = Bool.false, P7 x0, P7 x1, P6 (g7_0 x0) (g7_0 x1), P7 x0, P7 x1, P8 (g7_0 x0) (g7_0 x1), True, (!g9_0 (g8_0 (g7_0 x0) (g7_0 x1)) (g6_0 (g7_0 x0) (g7_0 x1))) = Bool.false, (g8_1 (g7_0 x0) (g7_0 x1) != g6_1 (g7_0 x0) (g7_0 x1)) = Bool.false, P7 x0, True, (!g9_0 (g7_0 x0) (g7_0 x0)) = Bool.false, P7 x1, True, (!g9_0 (g7_0 x1) (g7_0 x1)) = Bool.false, P10 (g7_0 x0) 1, List.length (u10_0 (g7_0 x0) 1) = List.length (g7_0 x0), P10 (g7_0 x1) (g10_0 (g7_0 x0) 1), List.length (u10_0 (g7_0 x1) (g10_0 (g7_0 x0) 1)) = List.length (g7_0 x1), Decidable.decide (g10_0 (g7_0 x1) (g10_0 (g7_0 x0) 1) < 0) = Bool.false, True, (!g9_0 (g8_0 (g7_0 x0) (g7_0 x1)) (g6_0 (g7_0 x0) (g7_0 x1))) = Bool.false, (g8_1 (g7_0 x0) (g7_0 x1) != g6_1 (g7_0 x0) (g7_0 x1)) = Bool.false, P10 (g8_0 (g7_0 x0) (g7_0 x1)) 1, List.length (u10_0 (g8_0 (g7_0 x0) (g7_0 x1)) 1) = List.length (g8_0 (g7_0 x0) (g7_0 x1)), P11 (u10_0 (g8_0 (g7_0 x0) (g7_0 x1)) 1) 1, Decidable.decide (g11_0 (u10_0 (g8_0 (g7_0 x0) (g7_0 x1)) 1) 1 < 0) = Bool.false, (g11_0 (u10_0 (g8_0 (g7_0 x0) (g7_0 x1)) 1) 1 != g10_0 (g8_0 (g7_0 x0) (g7_0 x1)) 1) = Bool.false, P7 x0, P7 x1, P8 (g7_0 x0) (g7_0 x1), True, (!g9_0 (g8_0 (g7_0 x0) (g7_0 x1)) (g6_0 (g7_0 x0) (g7_0 x1))) = Bool.false, (g8_1 (g7_0 x0) (g7_0 x1) != g6_1 (g7_0 x0) (g7_0 x1)) = Bool.false, P11 (u10_0 (g8_0 (g7_0 x0) (g7_0 x1)) 1) 1, Decidable.decide (g11_0 (u10_0 (g8_0 (g7_0 x0) (g7_0 x1)) 1) 1 < 0) = Bool.false, (g11_0 (u10_0 (g8_0 (g7_0 x0) (g7_0 x1)) 1) 1 != g10_0 (g8_0 (g7_0 x0) (g7_0 x1)) 1) = Bool.false]) := by kernel_rfl
theorem at3 (x0 : List (ByteArray × ByteArray × ByteArray × Unit)) (x1 : List (ByteArray × ByteArray × ByteArray × Unit)) (h : P3 x0 x1) (w0 : World) (O : List Nat) (q : Nat → Value) : AtV Try.prog 3 (PostR [⟨Ty.bool, g3_0 x0 x1⟩] [] [] q w0 O) 119 w0 O q [] [.code b3] (entE 0 0 sig3 (x0, x1, ())) (entL sig3 (x0, x1, ())) := by
  unfold P3 at h
  unfold g3_0
  obtain ⟨s0, h⟩ := h
  by_cases b0 : (Decidable.decide (g5_0 x0 1048576 < 0)) = true
  · try simp only [if_pos b0] at h ⊢
    exact AtV.fin Try.func3 tabOk ext3Ok mixed (p3_0 x0 x1) ⟨s0, b0, trivial⟩
  · try simp only [if_neg b0] at h ⊢
    replace b0 := Bool.eq_false_iff.2 b0
    obtain ⟨s1, h⟩ := h
    by_cases b1 : (Decidable.decide (g5_0 x1 (g5_0 x0 1048576) < 0)) = true
    · try simp only [if_pos b1] at h ⊢
      exact AtV.fin Try.func3 tabOk ext3Ok mixed (p3_1 x0 x1) ⟨s0, b0, s1, b1, trivial⟩
    · try simp only [if_neg b1] at h ⊢
      replace b1 := Bool.eq_false_iff.2 b1
      obtain ⟨s2, h⟩ := h
      obtain ⟨s3, h⟩ := h
      obtain ⟨s4, h⟩ := h
      obtain ⟨s5, h⟩ := h
      obtain ⟨s6, h⟩ := h
      obtain ⟨s7, h⟩ := h
      by_cases b2 : (!g9_0 (g8_0 (g7_0 x0) (g7_0 x1)) (g6_0 (g7_0 x0) (g7_0 x1))) = true
      · try simp only [if_pos b2] at h ⊢
        exact AtV.fin Try.func3 tabOk ext3Ok mixed (p3_2 x0 x1) ⟨s0, b0, s1, b1, s2, s3, s4, s5, s6, s7, trivial, b2, rfl, trivial⟩
      · try simp only [if_neg b2] at h ⊢
        replace b2 := Bool.eq_false_iff.2 b2
        by_cases b3 : (g8_1 (g7_0 x0) (g7_0 x1) != g6_1 (g7_0 x0) (g7_0 x1)) = true
        · try simp only [if_pos b3] at h ⊢
          exact AtV.fin Try.func3 tabOk ext3Ok mixed (p3_3 x0 x1) ⟨s0, b0, s1, b1, s2, s3, s4, s5, s6, s7, trivial, b2, b3, trivial⟩
        · try simp only [if_neg b3] at h ⊢
          replace b3 := Bool.eq_false_iff.2 b3
          obtain ⟨s8, h⟩ := h
          by_cases b4 : (!g9_0 (g7_0 x0) (g7_0 x0)) = true
          · try simp only [if_pos b4] at h ⊢
            exact AtV.fin Try.func3 tabOk ext3Ok mixed (p3_4 x0 x1) ⟨s0, b0, s1, b1, s2, s3, s4, s5, s6, s7, trivial, b2, b3, s8, trivial, b4, trivial⟩
          · try simp only [if_neg b4] at h ⊢
            replace b4 := Bool.eq_false_iff.2 b4
            obtain ⟨s9, h⟩ := h
            by_cases b5 : (!g9_0 (g7_0 x1) (g7_0 x1)) = true
            · try simp only [if_pos b5] at h ⊢
              exact AtV.fin Try.func3 tabOk ext3Ok mixed (p3_5 x0 x1) ⟨s0, b0, s1, b1, s2, s3, s4, s5, s6, s7, trivial, b2, b3, s8, trivial, b4, s9, trivial, b5, trivial⟩
            · try simp only [if_neg b5] at h ⊢
              replace b5 := Bool.eq_false_iff.2 b5
              obtain ⟨s10, s11, h⟩ := h
              obtain ⟨s12, s13, h⟩ := h
              by_cases b6 : (Decidable.decide (g10_0 (g7_0 x1) (g10_0 (g7_0 x0) 1) < 0)) = true
              · try simp only [if_pos b6] at h ⊢
                exact AtV.fin Try.func3 tabOk ext3Ok mixed (p3_6 x0 x1) ⟨s0, b0, s1, b1, s2, s3, s4, s5, s6, s7, trivial, b2, b3, s8, trivial, b4, s9, trivial, b5, s10, s11, s12, s13, b6, rfl, rfl, trivial⟩
              · try simp only [if_neg b6] at h ⊢
                replace b6 := Bool.eq_false_iff.2 b6
                obtain ⟨s14, s15, h⟩ := h
                obtain ⟨s16, h⟩ := h
                by_cases b7 : (Decidable.decide (g11_0 (u10_0 (g8_0 (g7_0 x0) (g7_0 x1)) 1) 1 < 0)) = true
                · try simp only [if_pos b7] at h ⊢
                  exact AtV.fin Try.func3 tabOk ext3Ok mixed (p3_7 x0 x1) ⟨s0, b0, s1, b1, s2, s3, s4, s5, s6, s7, trivial, b2, b3, s8, trivial, b4, s9, trivial, b5, s10, s11, s12, s13, b6, trivial, b2, b3, s14, s15, s16, b7, trivial⟩
                · try simp only [if_neg b7] at h ⊢
                  replace b7 := Bool.eq_false_iff.2 b7
                  by_cases b8 : (g11_0 (u10_0 (g8_0 (g7_0 x0) (g7_0 x1)) 1) 1 != g10_0 (g8_0 (g7_0 x0) (g7_0 x1)) 1) = true
                  · try simp only [if_pos b8] at h ⊢
                    exact AtV.fin Try.func3 tabOk ext3Ok mixed (p3_8 x0 x1) ⟨s0, b0, s1, b1, s2, s3, s4, s5, s6, s7, trivial, b2, b3, s8, trivial, b4, s9, trivial, b5, s10, s11, s12, s13, b6, trivial, b2, b3, s14, s15, s16, b7, b8, trivial⟩
                  · try simp only [if_neg b8] at h ⊢
                    replace b8 := Bool.eq_false_iff.2 b8
                    obtain ⟨s17, h⟩ := h
                    obtain ⟨s18, h⟩ := h
                    obtain ⟨s19, h⟩ := h
                    obtain ⟨s20, h⟩ := h
                    exact AtV.fin Try.func3 tabOk ext3Ok mixed (p3_9 x0 x1) ⟨s0, b0, s1, b1, s2, s3, s4, s5, s6, s7, trivial, b2, b3, s8, trivial, b4, s9, trivial, b5, s10, s11, s12, s13, b6, trivial, b2, b3, s14, s15, s16, b7, b8, s17, s18, s19, trivial, b2, b3, s20, b7, b8, trivial⟩

def S3 : Am.Spec := { sig := sig3, pre := fun ⟨x0, x1, _⟩ => P3 x0 x1, res := fun ⟨x0, x1, _⟩ => [⟨Ty.bool, g3_0 x0 x1⟩] }
theorem con3 : Contract Try.prog 3 S3 := contract_of Try.func3 hb3 (Nat.le_of_ble_eq_true (by kernel_rfl)) (fun ⟨x0, x1, _⟩ h _ w0 O q => at3 x0 x1 h w0 O q)


end Go.Proofs.Ytakodkjcmacofaa

/- A law that says how functions of the program and of the specification hang together. -/
set_option linter.unusedVariables false
set_option linter.unusedSimpArgs false
set_option maxRecDepth 100000
namespace Go.Proofs.Ytakodkjcmacofaa
open Go Go.Am Go.Proofs

theorem name_eq (s : ByteArray) : g42_0 s = g45_0 s := by
  have hs : ∀ c, g57_0 c = (decide (97 ≤ c) && decide (c ≤ 122)) := fun c => by
    unfold g57_0
    by_cases h1 : (97 : Int) ≤ c <;> simp [h1]
  have hd : ∀ c, g58_0 c = (decide (48 ≤ c) && decide (c ≤ 57)) := fun c => by
    unfold g58_0
    by_cases h1 : (48 : Int) ≤ c <;> simp [h1]
  unfold g42_0 g45_0
  have hl := bytesOf_length s
  by_cases h1 : 1 ≤ s.size
  · cases hb : bytesOf s with
    | nil => rw [hb] at hl; simp at hl; omega
    | cons c r =>
      have hr : allI ok42 1 r = r.all fun b => g57_0 b || g58_0 b := by
        rw [← allI_plain (fun b => g57_0 b || g58_0 b) r 1]
        refine allI_congr r 1 fun j x hj => ?_
        have : (j == 0) = false := by simp; omega
        simp only [ok42, this, hs, hd, Bool.not_false, Bool.true_and]
      have h0 : ok42 0 c = g57_0 c := by simp [ok42, hs]
      simp only [allI, hr, h0, List.all_cons, List.getD_cons_zero]
      cases g57_0 c <;> simp
  · simp [h1]

theorem index_one (c : UInt8) : ∀ s : List UInt8, Lib.index s [c] = Lib.indexByte s c
  | [] => rfl
  | b :: l => by
    have e : (List.isPrefixOf [c] (b :: l)) = (b == c) := by
      simp only [List.isPrefixOf, Bool.and_true]
      exact Bool.beq_comm
    rw [Lib.index, Lib.indexByte, index_one c l, e]

theorem contains_one (s : List UInt8) (c : UInt8) : Lib.contains s [c] = s.contains c := by
  rw [Lib.contains_iff_indexByte, Lib.contains, index_one]

theorem contains_nl (s : ByteArray) : (!g43_0 s (ByteArray.mk #[10])) = (bytesOf s).all fun b => !(b == 10) := by
  unfold g43_0
  rw [show (ByteArray.mk #[10]).data.toList = [10] from rfl, contains_one]
  show (!s.data.toList.contains 10) = ((s.data.toList.map fun b => (b.toNat : Int)).all fun b => !(b == 10))
  induction s.data.toList with
  | nil => rfl
  | cons c r ih =>
    rw [List.contains_cons, Bool.not_or, ih, List.map_cons, List.all_cons]
    congr 2
    by_cases h : c = 10
    · subst h; rfl
    · have h1 : ((10 : UInt8) == c) = false := by simp; exact fun e => h e.symm
      have h2 : ((c.toNat : Int) == 10) = false := by
        rw [beq_eq_false_iff_ne]
        intro e
        exact h (UInt8.toNat_inj.1 (by show c.toNat = 10; omega))
      rw [h1, h2]

theorem block_eq (x : ByteArray × ByteArray × ByteArray × Unit) : g31_0 x = g35_0 x := by
  obtain ⟨a, b, t, u⟩ := x
  unfold g31_0 g35_0
  simp only [name_eq, ← contains_nl]
  have hc : decide ((t.size : Int) ≤ 400) = decide (t.size ≤ 400) := by
    congr 1; exact propext ⟨fun h => by omega, fun h => by omega⟩
  rw [hc]
  cases g45_0 a <;> cases g45_0 b <;> cases decide (t.size ≤ 400) <;> cases g43_0 t (ByteArray.mk #[10]) <;> rfl

end Go.Proofs.Ytakodkjcmacofaa

/- A law that says how functions of the program and of the specification hang together. -/
set_option linter.unusedVariables false
set_option linter.unusedSimpArgs false
set_option maxRecDepth 100000
namespace Go.Proofs.Ytakodkjcmacofaa
open Go Go.Am Go.Proofs

theorem nan (s : ByteArray) : g59_0 s = false := by simp [g59_0]

theorem cmp_str (a b : ByteArray) : g47_0 a b = if Op.bytesLess (ByteArray.toList a) (ByteArray.toList b) = true then -1 else if (ByteArray.toList a == ByteArray.toList b) = true then 0 else 1 := by
  unfold g47_0
  simp only [nan, Bool.false_eq_true, if_false]
  cases Op.bytesLess (ByteArray.toList a) (ByteArray.toList b) <;> cases (ByteArray.toList a == ByteArray.toList b) <;> rfl

theorem before_cmp (a b : ByteArray × ByteArray × ByteArray × Unit) : (!decide (g37_0 a b ≥ 0)) = g36_0 a b := by
  unfold g37_0 g36_0
  simp only [g46_0, cmp_str]
  cases Op.bytesLess (ByteArray.toList a.1) (ByteArray.toList b.1) <;> cases (ByteArray.toList a.1 == ByteArray.toList b.1) <;> cases Op.bytesLess (ByteArray.toList a.2.1) (ByteArray.toList b.2.1) <;> cases (ByteArray.toList a.2.1 == ByteArray.toList b.2.1) <;> decide

theorem blocks_eq (x : List (ByteArray × ByteArray × ByteArray × Unit)) : g24_0 x = g21_0 x := by
  unfold g24_0 g21_0
  congr 1
  refine allI_congr x 0 fun j y _ => ?_
  unfold ok24 ok21
  rw [block_eq, before_cmp]

end Go.Proofs.Ytakodkjcmacofaa

/- A law that says how functions of the program and of the specification hang together. -/
set_option linter.unusedVariables false
set_option linter.unusedSimpArgs false
set_option maxRecDepth 100000
namespace Go.Proofs.Ytakodkjcmacofaa
open Go Go.Am Go.Proofs

theorem before_iff (a b : (ByteArray × ByteArray × ByteArray × Unit)) : g36_0 a b = true ↔ sless a.1 b.1 = true ∨ (a.1 = b.1 ∧ sless a.2.1 b.2.1 = true) := by
  unfold g36_0 sless
  have e := bytes_eq a.1 b.1
  cases h1 : Op.bytesLess (ByteArray.toList a.1) (ByteArray.toList b.1) with
  | true => simp
  | false =>
    cases h2 : (ByteArray.toList a.1 == ByteArray.toList b.1) with
    | true => rw [h2] at e; simp [e.1 rfl]
    | false =>
      rw [h2] at e
      have : a.1 ≠ b.1 := fun h => by have := e.2 h; cases this
      simp [this]

theorem before_trans {a b c : (ByteArray × ByteArray × ByteArray × Unit)} (h1 : g36_0 a b = true) (h2 : g36_0 b c = true) : g36_0 a c = true := by
  rw [before_iff] at *
  rcases h1 with h1 | ⟨e1, h1⟩
  · rcases h2 with h2 | ⟨e2, h2⟩
    · exact .inl (sless_trans h1 h2)
    · exact .inl (by rw [← e2]; exact h1)
  · rcases h2 with h2 | ⟨e2, h2⟩
    · exact .inl (by rw [e1]; exact h2)
    · exact .inr ⟨e1.trans e2, sless_trans h1 h2⟩

/-- Two blocks of one kind and name. -/
def twins (a b : (ByteArray × ByteArray × ByteArray × Unit)) : Prop := a.1 = b.1 ∧ a.2.1 = b.2.1

theorem before_twins {a b : (ByteArray × ByteArray × ByteArray × Unit)} (h : twins a b) : g36_0 a b = false := by
  rw [Bool.eq_false_iff]
  intro hb
  rw [before_iff, h.1, h.2, sless_irrefl, sless_irrefl] at hb
  simp at hb

theorem before_left {a b c : (ByteArray × ByteArray × ByteArray × Unit)} (h : twins b c) (hb : g36_0 a b = true) : g36_0 a c = true := by
  rw [before_iff] at *
  rw [← h.1, ← h.2]
  exact hb

theorem before_tri {a b : (ByteArray × ByteArray × ByteArray × Unit)} (h1 : g36_0 a b = false) (h2 : ¬ twins a b) : g36_0 b a = true := by
  rw [Bool.eq_false_iff, ne_eq, before_iff, not_or] at h1
  rw [before_iff]
  cases h3 : sless b.1 a.1 with
  | true => exact .inl rfl
  | false =>
    have e : a.1 = b.1 := sless_tri (Bool.eq_false_iff.2 h1.1) h3
    refine .inr ⟨e.symm, ?_⟩
    cases h4 : sless b.2.1 a.2.1 with
    | true => rfl
    | false =>
      exfalso
      refine h2 ⟨e, sless_tri (Bool.eq_false_iff.2 fun h => h1.2 ⟨e, h⟩) h4⟩

theorem cmp_lt (a b : (ByteArray × ByteArray × ByteArray × Unit)) : decide (g37_0 a b < 0) = g36_0 a b := by
  rw [← before_cmp]
  by_cases h : g37_0 a b < 0
  · have : ¬ g37_0 a b ≥ 0 := by omega
    simp [h]
  · have : g37_0 a b ≥ 0 := by omega
    simp [h, this]

theorem cmp_eq (a b : (ByteArray × ByteArray × ByteArray × Unit)) : (g37_0 a b == 0) = true ↔ twins a b := by
  unfold twins g37_0
  simp only [g46_0, cmp_str]
  rw [← bytes_eq, ← bytes_eq]
  have irr : ∀ s t : ByteArray, (ByteArray.toList s == ByteArray.toList t) = true → Op.bytesLess (ByteArray.toList s) (ByteArray.toList t) = false := fun s t h => by
    rw [(bytes_eq s t).1 h]; exact bl_irrefl _
  cases h1 : (ByteArray.toList a.1 == ByteArray.toList b.1) with
  | true =>
    rw [irr _ _ h1]
    cases h2 : (ByteArray.toList a.2.1 == ByteArray.toList b.2.1) with
    | true => rw [irr _ _ h2]; decide
    | false => cases Op.bytesLess (ByteArray.toList a.2.1) (ByteArray.toList b.2.1) <;> decide
  | false => cases Op.bytesLess (ByteArray.toList a.1) (ByteArray.toList b.1) <;> simp

/-- The blocks of a valid list rise. -/
theorem allI_get {α : Type} {q : Nat → α → Bool} : ∀ {l : List α} {i : Nat}, allI q i l = true → ∀ (j : Nat) (h : j < l.length), q (i + j) l[j] = true
  | x :: r, i, h, j, hj => by
    simp only [allI, Bool.and_eq_true] at h
    cases j with
    | zero => exact h.1
    | succ j =>
      have := allI_get h.2 j (by simpa using hj)
      rw [show i + (j + 1) = i + 1 + j from by omega]
      exact this
  | [], _, _, j, hj => by cases hj

theorem sorted (x : List (ByteArray × ByteArray × ByteArray × Unit)) (h : g21_0 x = true) : x.length ≤ 32 ∧ ∀ i j : Nat, i < j → (hj : j < x.length) → g36_0 (x.getD i (ByteArray.empty, ByteArray.empty, ByteArray.empty, ())) (x.getD j (ByteArray.empty, ByteArray.empty, ByteArray.empty, ())) = true := by
  unfold g21_0 at h
  simp only [Bool.and_eq_true, decide_eq_true_eq] at h
  refine ⟨h.2, ?_⟩
  have step : ∀ j : Nat, j + 1 < x.length → g36_0 (x.getD j (ByteArray.empty, ByteArray.empty, ByteArray.empty, ())) (x.getD (j + 1) (ByteArray.empty, ByteArray.empty, ByteArray.empty, ())) = true := fun j hj => by
    have := allI_get h.1 (j + 1) hj
    rw [Nat.zero_add] at this
    unfold ok21 at this
    simp only [Bool.and_eq_true, Nat.add_sub_cancel] at this
    rw [getD_lt x (j + 1) _ hj]
    simpa using this.2
  intro i j hij
  induction j with
  | zero => omega
  | succ j ih =>
    intro hj
    rcases Nat.lt_or_ge i j with hlt | hge
    · exact before_trans (ih hlt (by omega)) (step j hj)
    · have : i = j := by omega
      subst this
      exact step i hj

end Go.Proofs.Ytakodkjcmacofaa

/- A law that says how functions of the program and of the specification hang together. -/
set_option linter.unusedVariables false
set_option linter.unusedSimpArgs false
set_option maxRecDepth 100000
namespace Go.Proofs.Ytakodkjcmacofaa
open Go Go.Am Go.Proofs

theorem bsearch_at (p : Nat → Bool) (k N : Nat) (hk : ∀ i, i < N → p i = decide (i < k)) : ∀ (m i j : Nat), j - i < m → i ≤ k → k ≤ j → j ≤ N → bsearch p m i j = k
  | 0, i, j, h, _, _, _ => by omega
  | m + 1, i, j, h, h1, h2, h3 => by
    simp only [bsearch]
    split
    · rw [hk _ (by omega)]
      split
      · rename_i h4
        simp only [decide_eq_true_eq] at h4
        exact bsearch_at p k N hk m _ _ (by omega) (by omega) h2 h3
      · rename_i h4
        simp only [decide_eq_true_eq] at h4
        exact bsearch_at p k N hk m _ _ (by omega) h1 (by omega) (by omega)
    · omega

theorem cut_at (p : Nat → Bool) : ∀ N : Nat, (∀ i j, i < j → j < N → p j = true → p i = true) → ∃ k, k ≤ N ∧ ∀ i, i < N → p i = decide (i < k)
  | 0, _ => ⟨0, Nat.le_refl _, fun i h => by omega⟩
  | N + 1, hm => by
    obtain ⟨k, h1, h2⟩ := cut_at p N (fun i j hij hj => hm i j hij (by omega))
    cases hp : p N with
    | true =>
      refine ⟨N + 1, Nat.le_refl _, fun i hi => ?_⟩
      rw [decide_eq_true hi]
      rcases Nat.lt_or_ge i N with h | h
      · exact hm i N h (by omega) hp
      · rw [show i = N from by omega]; exact hp
    | false =>
      refine ⟨k, by omega, fun i hi => ?_⟩
      rcases Nat.lt_or_ge i N with h | h
      · exact h2 i h
      · rw [show i = N from by omega, hp, decide_eq_false (by omega)]

end Go.Proofs.Ytakodkjcmacofaa

/- A law that says how functions of the program and of the specification hang together. -/
set_option linter.unusedVariables false
set_option linter.unusedSimpArgs false
set_option maxRecDepth 100000
namespace Go.Proofs.Ytakodkjcmacofaa
open Go Go.Am Go.Proofs

/-- In order, whatever the length. -/
def Srt (x : List (ByteArray × ByteArray × ByteArray × Unit)) : Prop := ∀ i j : Nat, i < j → j < x.length → g36_0 (x.getD i (ByteArray.empty, ByteArray.empty, ByteArray.empty, ())) (x.getD j (ByteArray.empty, ByteArray.empty, ByteArray.empty, ())) = true

theorem placeS (x : List (ByteArray × ByteArray × ByteArray × Unit)) (t : (ByteArray × ByteArray × ByteArray × Unit)) (hs : Srt x) :
    k44c37 x t ≤ x.length ∧
    (∀ i, i < k44c37 x t → g36_0 (x.getD i (ByteArray.empty, ByteArray.empty, ByteArray.empty, ())) t = true) ∧
    (∀ i, k44c37 x t ≤ i → i < x.length → g36_0 (x.getD i (ByteArray.empty, ByteArray.empty, ByteArray.empty, ())) t = false) := by
  have hp : ∀ i, p44c37 x t i = g36_0 (x.getD i (ByteArray.empty, ByteArray.empty, ByteArray.empty, ())) t := fun i => cmp_lt _ _
  obtain ⟨k, hk1, hk2⟩ := cut_at (p44c37 x t) x.length (fun i j hij hj h => by
    rw [hp] at h ⊢
    exact before_trans (hs i j hij hj) h)
  have e : k44c37 x t = k := bsearch_at _ k x.length hk2 _ _ _ (by omega) (by omega) hk1 (Nat.le_refl _)
  rw [e]
  refine ⟨hk1, fun i hi => ?_, fun i hi hl => ?_⟩
  · rw [← hp, hk2 i (by omega)]; simpa using hi
  · rw [← hp, hk2 i hl]; simpa using hi

theorem twinB (y t : (ByteArray × ByteArray × ByteArray × Unit)) : (ByteArray.toList y.1 == ByteArray.toList t.1 && ByteArray.toList y.2.1 == ByteArray.toList t.2.1) = true ↔ twins y t := by
  unfold twins
  rw [Bool.and_eq_true, bytes_eq, bytes_eq]

theorem put_low (t : (ByteArray × ByteArray × ByteArray × Unit)) : ∀ (l h : List (ByteArray × ByteArray × ByteArray × Unit)), (∀ y ∈ l, g36_0 y t = true) → l.foldl (st22 t) (h, false) = (h ++ l, false)
  | [], h, _ => by simp
  | y :: r, h, hl => by
    have hb := hl y (List.mem_cons_self ..)
    have ht : ¬ twins y t := fun h => by rw [before_twins h] at hb; cases hb
    have hf : (ByteArray.toList y.1 == ByteArray.toList t.1 && ByteArray.toList y.2.1 == ByteArray.toList t.2.1) = false := Bool.eq_false_iff.2 fun h => ht ((twinB y t).1 h)
    have e : st22 t (h, false) y = (h ++ [y], false) := by
      unfold st22
      rw [hf, hb]
      rfl
    rw [List.foldl_cons, e, put_low t r (h ++ [y]) (fun z hz => hl z (List.mem_cons_of_mem _ hz))]
    simp

theorem put_high (t : (ByteArray × ByteArray × ByteArray × Unit)) : ∀ (l h : List (ByteArray × ByteArray × ByteArray × Unit)), (∀ y ∈ l, ¬ twins y t) → l.foldl (st22 t) (h, true) = (h ++ l, true)
  | [], h, _ => by simp
  | y :: r, h, hl => by
    have ht := hl y (List.mem_cons_self ..)
    have hf : (ByteArray.toList y.1 == ByteArray.toList t.1 && ByteArray.toList y.2.1 == ByteArray.toList t.2.1) = false := Bool.eq_false_iff.2 fun h => ht ((twinB y t).1 h)
    have e : st22 t (h, true) y = (h ++ [y], true) := by
      unfold st22
      rw [hf]
      rfl
    rw [List.foldl_cons, e, put_high t r (h ++ [y]) (fun z hz => hl z (List.mem_cons_of_mem _ hz))]
    simp

theorem mem_take_get {x : List (ByteArray × ByteArray × ByteArray × Unit)} {K : Nat} {y : (ByteArray × ByteArray × ByteArray × Unit)} (h : y ∈ x.take K) : ∃ i, i < K ∧ i < x.length ∧ y = x.getD i (ByteArray.empty, ByteArray.empty, ByteArray.empty, ()) := by
  obtain ⟨i, hi, rfl⟩ := List.mem_iff_getElem.1 h
  rw [List.length_take] at hi
  exact ⟨i, by omega, by omega, by rw [List.getElem_take, getD_lt _ _ _ (by omega)]⟩

theorem mem_drop_get {x : List (ByteArray × ByteArray × ByteArray × Unit)} {K : Nat} {y : (ByteArray × ByteArray × ByteArray × Unit)} (h : y ∈ x.drop K) : ∃ i, K ≤ i ∧ i < x.length ∧ y = x.getD i (ByteArray.empty, ByteArray.empty, ByteArray.empty, ()) := by
  obtain ⟨i, hi, rfl⟩ := List.mem_iff_getElem.1 h
  rw [List.length_drop] at hi
  exact ⟨K + i, by omega, by omega, by rw [List.getElem_drop, getD_lt _ _ _ (by omega)]⟩


open Classical in
theorem put_at (x : List (ByteArray × ByteArray × ByteArray × Unit)) (t : (ByteArray × ByteArray × ByteArray × Unit)) (hs : Srt x) (K : Nat) (hK : K ≤ x.length) (h1 : ∀ i, i < K → g36_0 (x.getD i (ByteArray.empty, ByteArray.empty, ByteArray.empty, ())) t = true) (h2 : ∀ i, K ≤ i → i < x.length → g36_0 (x.getD i (ByteArray.empty, ByteArray.empty, ByteArray.empty, ())) t = false) :
    g22_0 x t = if K < x.length ∧ twins (x.getD K (ByteArray.empty, ByteArray.empty, ByteArray.empty, ())) t then x.take K ++ t :: x.drop (K + 1) else x.take K ++ t :: x.drop K := by
  unfold g22_0
  have e : x.foldl (st22 t) ([], false) = (x.drop K).foldl (st22 t) (x.take K, false) := by
    conv => lhs; rw [← List.take_append_drop K x]
    rw [List.foldl_append, put_low t _ _ (fun y hy => by
      obtain ⟨i, hi, _, rfl⟩ := mem_take_get hy
      exact h1 i hi)]
    rfl
  rw [e]
  by_cases hlt : K < x.length
  · have hd : x.drop K = x.getD K (ByteArray.empty, ByteArray.empty, ByteArray.empty, ()) :: x.drop (K + 1) := drop_get x K _ hlt
    have hb := h2 K (Nat.le_refl _) hlt
    have hrest : ∀ y ∈ x.drop (K + 1), ¬ twins y t := fun y hy ht => by
      obtain ⟨i, hi, hl, rfl⟩ := mem_drop_get hy
      have := before_left ht (hs K i (by omega) hl)
      rw [hb] at this
      cases this
    rw [hd, List.foldl_cons]
    by_cases htw : twins (x.getD K (ByteArray.empty, ByteArray.empty, ByteArray.empty, ())) t
    · have e2 : st22 t (x.take K, false) (x.getD K (ByteArray.empty, ByteArray.empty, ByteArray.empty, ())) = (x.take K ++ [t], true) := by
        unfold st22
        rw [(twinB _ t).2 htw, hb]
        rfl
      rw [e2, put_high t _ _ hrest, if_pos ⟨hlt, htw⟩]
      simp [fin22]
    · have hf : (ByteArray.toList (x.getD K (ByteArray.empty, ByteArray.empty, ByteArray.empty, ())).1 == ByteArray.toList t.1 && ByteArray.toList (x.getD K (ByteArray.empty, ByteArray.empty, ByteArray.empty, ())).2.1 == ByteArray.toList t.2.1) = false := Bool.eq_false_iff.2 fun h => htw ((twinB _ t).1 h)
      have e2 : st22 t (x.take K, false) (x.getD K (ByteArray.empty, ByteArray.empty, ByteArray.empty, ())) = (x.take K ++ [t] ++ [x.getD K (ByteArray.empty, ByteArray.empty, ByteArray.empty, ())], true) := by
        unfold st22
        rw [hf, hb]
        rfl
      rw [e2, put_high t _ _ hrest, if_neg (fun h => htw h.2)]
      simp [fin22]
  · have : K = x.length := by omega
    rw [List.drop_of_length_le (by omega), if_neg (fun h => hlt h.1)]
    simp [fin22]

theorem before_right {a b c : (ByteArray × ByteArray × ByteArray × Unit)} (h : twins a b) (hb : g36_0 a c = true) : g36_0 b c = true := by
  rw [before_iff] at *
  rw [← h.1, ← h.2]
  exact hb

theorem srt_join {a b : List (ByteArray × ByteArray × ByteArray × Unit)} {t : (ByteArray × ByteArray × ByteArray × Unit)} (ha : Srt a) (hb : Srt b) (h1 : ∀ y ∈ a, g36_0 y t = true) (h2 : ∀ y ∈ b, g36_0 t y = true) : Srt (a ++ t :: b) := by
  have get : ∀ i, i < (a ++ t :: b).length → (i < a.length ∧ (a ++ t :: b).getD i (ByteArray.empty, ByteArray.empty, ByteArray.empty, ()) = a.getD i (ByteArray.empty, ByteArray.empty, ByteArray.empty, ())) ∨ (i = a.length ∧ (a ++ t :: b).getD i (ByteArray.empty, ByteArray.empty, ByteArray.empty, ()) = t) ∨ (a.length < i ∧ i - a.length - 1 < b.length ∧ (a ++ t :: b).getD i (ByteArray.empty, ByteArray.empty, ByteArray.empty, ()) = b.getD (i - a.length - 1) (ByteArray.empty, ByteArray.empty, ByteArray.empty, ())) := fun i hi => by
    simp only [List.length_append, List.length_cons] at hi
    rw [List.getD_eq_getElem?_getD]
    rcases Nat.lt_trichotomy i a.length with h | h | h
    · left; refine ⟨h, ?_⟩; rw [List.getElem?_append_left h, List.getD_eq_getElem?_getD]
    · right; left; refine ⟨h, ?_⟩; rw [List.getElem?_append_right (by omega), h, Nat.sub_self]; rfl
    · right; right
      obtain ⟨m, hm⟩ : ∃ m, i - a.length = m + 1 := ⟨i - a.length - 1, by omega⟩
      refine ⟨h, by omega, ?_⟩
      rw [List.getElem?_append_right (by omega), hm, List.getElem?_cons_succ, Nat.add_sub_cancel, List.getD_eq_getElem?_getD]
  have mem : ∀ (l : List (ByteArray × ByteArray × ByteArray × Unit)) i, i < l.length → l.getD i (ByteArray.empty, ByteArray.empty, ByteArray.empty, ()) ∈ l := fun l i hi => by rw [getD_lt _ _ _ hi]; exact List.getElem_mem _
  intro i j hij hj
  rcases get i (by omega) with ⟨i1, ei⟩ | ⟨i1, ei⟩ | ⟨i1, i2, ei⟩ <;> rcases get j hj with ⟨j1, ej⟩ | ⟨j1, ej⟩ | ⟨j1, j2, ej⟩ <;> rw [ei, ej]
  · exact ha i j hij j1
  · exact h1 _ (mem a i i1)
  · exact before_trans (h1 _ (mem a i i1)) (h2 _ (mem b _ j2))
  · omega
  · omega
  · exact h2 _ (mem b _ j2)
  · omega
  · omega
  · exact hb _ _ (by omega) j2

theorem srt_take {x : List (ByteArray × ByteArray × ByteArray × Unit)} (h : Srt x) (K : Nat) : Srt (x.take K) := fun i j hij hj => by
  rw [List.length_take] at hj
  have := h i j hij (by omega)
  rw [getD_lt _ _ _ (by omega), getD_lt _ _ _ (by omega)] at this
  rw [getD_lt _ _ _ (by rw [List.length_take]; omega), getD_lt _ _ _ (by rw [List.length_take]; omega), List.getElem_take, List.getElem_take]
  exact this

theorem srt_drop {x : List (ByteArray × ByteArray × ByteArray × Unit)} (h : Srt x) (K : Nat) : Srt (x.drop K) := fun i j hij hj => by
  rw [List.length_drop] at hj
  have := h (K + i) (K + j) (by omega) (by omega)
  rw [getD_lt _ _ _ (by omega), getD_lt _ _ _ (by omega)] at this
  rw [getD_lt _ _ _ (by rw [List.length_drop]; omega), getD_lt _ _ _ (by rw [List.length_drop]; omega), List.getElem_drop, List.getElem_drop]
  exact this

/-- Both put a block alike, and in order it stays. -/
theorem put_eq (x : List (ByteArray × ByteArray × ByteArray × Unit)) (t : (ByteArray × ByteArray × ByteArray × Unit)) (hs : Srt x) : g26_0 x t = g22_0 x t ∧ Srt (g22_0 x t) := by
  obtain ⟨p1, p2, p3⟩ := placeS x t hs
  have e := put_at x t hs _ p1 p2 p3
  have eb : g32_1 x t = true ↔ k44c37 x t < x.length ∧ twins (x.getD (k44c37 x t) (ByteArray.empty, ByteArray.empty, ByteArray.empty, ())) t := by
    unfold g32_1 g44c37_1 f44c37
    by_cases h : k44c37 x t < x.length
    · rw [if_pos h, cmp_eq]; exact ⟨fun hh => ⟨h, hh⟩, fun hh => hh.2⟩
    · rw [if_neg h]; exact ⟨fun hh => (by cases hh), fun hh => absurd hh.1 h⟩
  have e0 : g32_0 x t = ((k44c37 x t : Nat) : Int) := rfl
  generalize k44c37 x t = K at *
  rw [e]
  constructor
  · show (if g32_1 x t = true then x.set (g32_0 x t).toNat t else g38_0 x (g32_0 x t) [t]) = _
    rw [e0]
    by_cases h : K < x.length ∧ twins (x.getD K (ByteArray.empty, ByteArray.empty, ByteArray.empty, ())) t
    · rw [if_pos (eb.2 h), if_pos h, Int.toNat_natCast, List.set_eq_take_append_cons_drop, if_pos h.1]
    · rw [if_neg (fun hh => h (eb.1 hh)), if_neg h]
      unfold g38_0
      rw [Int.toNat_natCast]
      rfl
  · have low : ∀ y ∈ x.take K, g36_0 y t = true := fun y hy => by
      obtain ⟨i, hi, _, rfl⟩ := mem_take_get hy
      exact p2 i hi
    split
    · rename_i h
      refine srt_join (srt_take hs K) (srt_drop hs _) low (fun y hy => ?_)
      obtain ⟨i, hi, hl, rfl⟩ := mem_drop_get hy
      exact before_right h.2 (hs K i (by omega) hl)
    · rename_i h
      refine srt_join (srt_take hs K) (srt_drop hs _) low (fun y hy => ?_)
      obtain ⟨i, hi, hl, rfl⟩ := mem_drop_get hy
      refine before_tri (p3 i hi hl) (fun ht => ?_)
      rcases Nat.lt_or_ge K i with hlt | hge
      · have := before_left ht (hs K i hlt hl)
        rw [p3 K (Nat.le_refl _) (by omega)] at this
        cases this
      · have : i = K := by omega
        subst this
        exact h ⟨hl, ht⟩

end Go.Proofs.Ytakodkjcmacofaa

/- A law that says how functions of the program and of the specification hang together. -/
set_option linter.unusedVariables false
set_option linter.unusedSimpArgs false
set_option maxRecDepth 100000
namespace Go.Proofs.Ytakodkjcmacofaa
open Go Go.Am Go.Proofs

theorem merge_all (t : List (ByteArray × ByteArray × ByteArray × Unit)) : ∀ (x : List (ByteArray × ByteArray × ByteArray × Unit)), Srt x → all8 x t = all6 x t := by
  unfold all8 all6
  induction t with
  | nil => intro x _; rfl
  | cons y r ih =>
    intro x hs
    obtain ⟨e1, e2⟩ := put_eq x y hs
    rw [List.foldl_cons, List.foldl_cons, e1]
    exact ih _ e2

theorem merge_eq (x t : List (ByteArray × ByteArray × ByteArray × Unit)) : g8_0 x t = g6_0 x t ∧ g8_1 x t = g6_1 x t := by
  unfold g8_0 g6_0 g8_1 g6_1
  rw [blocks_eq, blocks_eq]
  cases h : g21_0 x with
  | false => simp
  | true =>
    obtain ⟨_, hs⟩ := sorted x h
    rw [merge_all t x hs]
    exact ⟨rfl, rfl⟩

theorem merge_len (x t : List (ByteArray × ByteArray × ByteArray × Unit)) : (g6_0 x t).length ≤ 32 := by
  unfold g6_0
  split
  · split
    · simp
    · omega
  · simp

end Go.Proofs.Ytakodkjcmacofaa

/- A law that says how functions of the program and of the specification hang together. -/
set_option linter.unusedVariables false
set_option linter.unusedSimpArgs false
set_option maxRecDepth 100000
namespace Go.Proofs.Ytakodkjcmacofaa
open Go Go.Am Go.Proofs

theorem marked_blk (xs : List (ByteArray × ByteArray × ByteArray × Unit)) (h : xs.length ≤ 1048576) : P10 xs 1 ∧ (u10_0 xs 1).length = xs.length ∧ ¬ g10_0 xs 1 < 0 := by
  have hl : (u10_0 xs 1).length = xs.length := by rw [u10_0, M10_len]
  refine ⟨⟨by omega, by omega⟩, hl, ?_⟩
  unfold g10_0
  omega

theorem marked2_blk (xs ys : List (ByteArray × ByteArray × ByteArray × Unit)) (h : xs.length + ys.length ≤ 1048576) : P10 ys (g10_0 xs 1) ∧ (u10_0 ys (g10_0 xs 1)).length = ys.length ∧ ¬ g10_0 ys (g10_0 xs 1) < 0 := by
  have hl : (u10_0 ys (g10_0 xs 1)).length = ys.length := by rw [u10_0, M10_len]
  refine ⟨⟨?_, ?_⟩, hl, ?_⟩ <;> unfold g10_0 <;> omega

end Go.Proofs.Ytakodkjcmacofaa

/- A law that says how functions of the program and of the specification hang together. -/
set_option linter.unusedVariables false
set_option linter.unusedSimpArgs false
set_option maxRecDepth 100000
namespace Go.Proofs.Ytakodkjcmacofaa
open Go Go.Am Go.Proofs

theorem held_blk (xs : List (ByteArray × ByteArray × ByteArray × Unit)) (h : xs.length ≤ 1048576) : P11 (u10_0 xs 1) 1 ∧ g11_0 (u10_0 xs 1) 1 = g10_0 xs 1 := by
  have hl : (u10_0 xs 1).length = xs.length := by rw [u10_0, M10_len]
  refine ⟨⟨⟨by omega, by rw [hl]; omega⟩, fun i hi => ?_⟩, ?_⟩
  · rw [hl] at hi
    rw [getD_lt _ _ _ (by rw [hl]; exact hi)]
    simp [u10_0, M10]
  · unfold g11_0 g10_0
    rw [hl]

end Go.Proofs.Ytakodkjcmacofaa

/- The plain law of FnExactMergeBlocks. -/
set_option linter.unusedVariables false
set_option linter.unusedSimpArgs false
set_option maxRecDepth 100000
namespace Go.Proofs.Ytakodkjcmacofaa
open Go Go.Am Go.Proofs

theorem law3 (x y : List (ByteArray × ByteArray × ByteArray × Unit)) (hw : Wf (.sl (.cons .str (.cons .str (.cons .str .unit)))) x) (hw2 : Wf (.sl (.cons .str (.cons .str (.cons .str .unit)))) y) : P3 x y ∧ g3_0 x y = true := by
  unfold P3 g3_0
  have hz : P5 x 1048576 := (show (0 : Int) ≤ 1048576 from by decide)
  by_cases h : g5_0 x 1048576 < 0
  · simp only [h, hz, decide_true, decide_false, Bool.false_eq_true, if_false, if_true, and_true, true_and]
  · have hs := g5_le x 1048576 (by decide) (by decide) hw h
    have hz2 : P5 y (g5_0 x 1048576) := (show (0 : Int) ≤ g5_0 x 1048576 from by omega)
    by_cases h2 : g5_0 y (g5_0 x 1048576) < 0
    · simp only [h, h2, hz, hz2, decide_true, decide_false, Bool.false_eq_true, if_false, if_true, and_true, true_and]
    · have hs2 := g5_le y (g5_0 x 1048576) (by omega) (by rw [i64_iff]; omega) hw2 h2
      have hp : P7 x := by
        show 48 * (x.length : Int) ≤ 281474976710656
        omega
      have hp2 : P7 y := by
        show 48 * (y.length : Int) ≤ 281474976710656
        omega
      have q1 : P8 x y := (show x.length + y.length ≤ 1048576 from by omega)
      have q2 : P6 x y := (show x.length + y.length ≤ 1048576 from by omega)
      obtain ⟨e0, e1⟩ := merge_eq x y
      have hl := merge_len x y
      obtain ⟨b1, b2, b3⟩ := marked_blk x (by omega)
      obtain ⟨a1, a2, a3⟩ := marked2_blk x y (by omega)
      obtain ⟨c1, c2, c3⟩ := marked_blk (g6_0 x y) (by omega)
      obtain ⟨d1, d2⟩ := held_blk (g6_0 x y) (by omega)
      simp only [h, h2, decide_false, Bool.false_eq_true, if_false, g7_0, e0, e1, q1, q2, g9_0, decide_true, Bool.not_true, bne_self_eq_false, beq_self_eq_true, a1, a2, a3, b1, b2, b3, c1, c2, c3, d1, d2, hp, hp2, hz, hz2, true_and, and_self]

end Go.Proofs.Ytakodkjcmacofaa
