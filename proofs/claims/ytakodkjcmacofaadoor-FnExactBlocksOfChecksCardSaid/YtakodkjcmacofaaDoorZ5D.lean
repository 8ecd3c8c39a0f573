/- Several texts in one: the functions that this law reaches, and their laws. -/
import Derived.Test.YtakodkjcmacofaaDoorZ5A
import Derived.Test.YtakodkjcmacofaaDoorZ5B
import Derived.Test.YtakodkjcmacofaaDoorZ5C

/- Function 78 (laws.markText): its runs between cut points. Written by a program of this repo (gen). -/
set_option linter.unusedVariables false
set_option linter.unusedSimpArgs false
set_option maxRecDepth 100000
namespace Go.Proofs.YtakodkjcmacofaaDoor
open Go Go.Am Go.Proofs
def ext78 : Ext := []
theorem ext78Ok : ExtOk Tryd.prog ext78 := trivial
/-! Function 78. -/
noncomputable def b78 : Code := bodyOf Tryd.f78
theorem hb78 : Tryd.f78.body = some b78 := by kernel_rfl
def sig78 : List AT := [AT.v (Ty.int IntKind.i64)]
def tys78 : List Ty := [Ty.str]
def E78_4 (v3 : ByteArray) (x0 : Int) : Env := [(0, PV.a (Atom.val (Value.int IntKind.i64 x0))), (3, PV.a (Atom.val (Value.string v3)))]
def L78_4 (v3 : ByteArray) (x0 : Int) : Heap := []
mutual
def R78 : Nat → Int → List Dyn → Prop
  | 0, _, _ => False
  | n + 1, x0, ds => (if (Decidable.decide (x0 ≤ 0)) = true then (ds = [Dyn.mk Ty.str (ByteArray.mk #[109, 48])]) else (R78_4 n (ByteArray.mk #[]) (x0) ds))
def R78_4 : Nat → ByteArray → Int → List Dyn → Prop
  | 0, _, _, _ => False
  | n + 1, v3, x0, ds => (if (Decidable.decide (x0 > 0)) = true then ((InR IntKind.i64 (Int.tmod x0 10)) ∧ ((InR IntKind.i64 (48 + Int.tmod x0 10)) ∧ ((InR IntKind.u8 (48 + Int.tmod x0 10)) ∧ ((ByteArray.size (bytesStr [48 + Int.tmod x0 10]) + ByteArray.size v3 ≤ 9223372036854775807) ∧ ((InR IntKind.i64 (Int.tdiv x0 10)) ∧ (R78_4 n (bytesStr [48 + Int.tmod x0 10] ++ v3) (Int.tdiv x0 10) ds)))))) else ((1 + ByteArray.size v3 ≤ 9223372036854775807) ∧ (ds = [Dyn.mk Ty.str (ByteArray.mk #[109] ++ v3)])))
end
theorem p78_0 (x0 : Int) : runF tab ext78 false 20 [] 2000 [] tys78 Tryd.f78.results [true] [.code b78] (entE 0 0 sig78 (x0, ())) (entL sig78 (x0, ())) = some ([Dyn.mk Ty.str (ByteArray.mk #[109, 48])], [], [Decidable.decide (x0 ≤ 0) = Bool.true]) := by kernel_rfl
theorem p78_1 (x0 : Int) : Am.runN tab ext78 false 20 [] 2000 [] [] [0, 3] [] [false] [.code b78] (entE 0 0 sig78 (x0, ())) (entL sig78 (x0, ())) = some (cutAt b78 4, E78_4 (ByteArray.mk #[]) (x0), L78_4 (ByteArray.mk #[]) (x0), [Decidable.decide (x0 ≤ 0) = Bool.false]) := by kernel_rfl
theorem p78_2 (v3 : ByteArray) (x0 : Int) : Am.runN tab ext78 false 20 [] 2000 [] [] [0, 3] [] [true] (cutAt b78 4) (E78_4 v3 x0) (L78_4 v3 x0) = some (cutAt b78 4, E78_4 (bytesStr [48 + Int.tmod x0 10] ++ v3) (Int.tdiv x0 10), L78_4 (bytesStr [48 + Int.tmod x0 10] ++ v3) (Int.tdiv x0 10), [Decidable.decide (x0 > 0) = Bool.true, (10 : Int) ≠ (0 : Int), InR IntKind.i64 (Int.tmod x0 10), InR IntKind.i64 (48 + Int.tmod x0 10), InR IntKind.u8 (48 + Int.tmod x0 10), ByteArray.size (bytesStr [48 + Int.tmod x0 10]) + ByteArray.size v3 ≤ 9223372036854775807, (10 : Int) ≠ (0 : Int), InR IntKind.i64 (Int.tdiv x0 10)]) := by kernel_rfl
theorem p78_3 (v3 : ByteArray) (x0 : Int) : runF tab ext78 false 20 [] 2000 [] tys78 Tryd.f78.results [false] (cutAt b78 4) (E78_4 v3 x0) (L78_4 v3 x0) = some ([Dyn.mk Ty.str (ByteArray.mk #[109] ++ v3)], [], [Decidable.decide (x0 > 0) = Bool.false, 1 + ByteArray.size v3 ≤ 9223372036854775807]) := by kernel_rfl
theorem snd78 : ∀ n, (∀ (x0 : Int) ds, R78 n x0 ds → ∀ w0 O q, AtV Tryd.prog 78 (PostR ds [] [] q w0 O) 20 w0 O q [] [.code b78] (entE 0 0 sig78 (x0, ())) (entL sig78 (x0, ()))) ∧ (∀ (v3 : ByteArray) (x0 : Int) ds, R78_4 n v3 x0 ds → ∀ w0 O q, AtV Tryd.prog 78 (PostR ds [] [] q w0 O) 20 w0 O q [] (cutAt b78 4) (E78_4 v3 x0) (L78_4 v3 x0)) := by
  intro n
  induction n with
  | zero => exact ⟨fun _ _ h => by simp only [R78] at h, fun _ _ _ h => by simp only [R78_4] at h⟩
  | succ n ih =>
  obtain ⟨ih, ih4⟩ := ih
  refine ⟨?_, ?_⟩
  · intro x0 ds h w0 O q
    rw [R78] at h
    by_cases b0 : (Decidable.decide (x0 ≤ 0)) = true
    · rw [if_pos b0] at h
      subst h
      exact AtV.fin Tryd.func78 tabOk ext78Ok mixed (p78_0 x0) ⟨b0, trivial⟩
    · rw [if_neg b0] at h
      replace b0 := Bool.eq_false_iff.2 b0
      exact AtV.runN tabOk ext78Ok mixed (p78_1 x0) ⟨b0, trivial⟩ (ih4 _ _ _ h w0 O q)

  · intro v3 x0 ds h w0 O q
    rw [R78_4] at h
    by_cases b0 : (Decidable.decide (x0 > 0)) = true
    · rw [if_pos b0] at h
      obtain ⟨s0, h⟩ := h
      obtain ⟨s1, h⟩ := h
      obtain ⟨s2, h⟩ := h
      obtain ⟨s3, h⟩ := h
      obtain ⟨s4, h⟩ := h
      exact AtV.runN tabOk ext78Ok mixed (p78_2 v3 x0) ⟨b0, (by decide), s0, s1, s2, s3, (by decide), s4, trivial⟩ (ih4 _ _ _ h w0 O q)
    · rw [if_neg b0] at h
      replace b0 := Bool.eq_false_iff.2 b0
      obtain ⟨s0, h⟩ := h
      subst h
      exact AtV.fin Tryd.func78 tabOk ext78Ok mixed (p78_3 v3 x0) ⟨b0, s0, trivial⟩



def loop78 : Nat → ByteArray → Int → ByteArray
  | 0, v, _ => v
  | n + 1, v, x => if 0 < x then loop78 n (bytesStr [48 + Int.tmod x 10] ++ v) (Int.tdiv x 10) else v

theorem run78 : ∀ (n : Nat) (v : ByteArray) (x : Int), x < 10 ^ n → InR .i64 x → v.size + n ≤ 1000 → R78_4 (n + 1) v x [⟨.str, ByteArray.mk #[109] ++ loop78 n v x⟩] := by
  intro n
  induction n with
  | zero =>
    intro v x h1 _ h2
    rw [R78_4, if_neg (by simp at h1 ⊢; omega)]
    exact ⟨by omega, rfl⟩
  | succ n ih =>
    intro v x h1 hi h2
    rw [i64_iff] at hi
    rw [R78_4]
    by_cases hx : 0 < x
    · rw [if_pos (by simpa using hx)]
      have e1 : Int.tmod x 10 = x % 10 := Int.tmod_eq_emod_of_nonneg (by omega)
      have e2 : Int.tdiv x 10 = x / 10 := Int.tdiv_eq_ediv_of_nonneg (by omega)
      have hs : (bytesStr [48 + Int.tmod x 10]).size = 1 := bytesStr_size _
      have hp : (10 : Int) ^ (n + 1) = 10 * 10 ^ n := by rw [Int.pow_succ, Int.mul_comm]
      refine ⟨by rw [i64_iff, e1]; omega, by rw [i64_iff, e1]; omega, by rw [u8_iff, e1]; omega, by rw [hs]; omega, by rw [i64_iff, e2]; omega, ?_⟩
      have := ih (bytesStr [48 + Int.tmod x 10] ++ v) (Int.tdiv x 10) (by rw [e2]; omega) (by rw [i64_iff, e2]; omega) (by rw [ByteArray.size_append, hs]; omega)
      simp only [loop78, if_pos hx]
      exact this
    · rw [if_neg (by simp; omega)]
      simp only [loop78, if_neg hx]
      exact ⟨by omega, trivial⟩

def g78_0 (x0 : Int) : ByteArray := if x0 ≤ 0 then ByteArray.mk #[109, 48] else ByteArray.mk #[109] ++ loop78 19 (ByteArray.mk #[]) x0
def P78 (x0 : Int) : Prop := True

theorem top78 (x0 : Int) (hi : InR .i64 x0) : R78 21 x0 [⟨.str, g78_0 x0⟩] := by
  rw [R78]
  unfold g78_0
  by_cases h : x0 ≤ 0
  · rw [if_pos (by simpa using h), if_pos h]
  · rw [if_neg (by simpa using h), if_neg h]
    have hi' := hi
    rw [i64_iff] at hi'
    exact run78 19 _ x0 (by omega) hi (by decide)

def S78 : Am.Spec := { sig := sig78, pre := fun ⟨x0, _⟩ => P78 x0, res := fun ⟨x0, _⟩ => [⟨.str, g78_0 x0⟩] }
theorem con78 : Contract Tryd.prog 78 S78 := contract_of Tryd.func78 hb78 (Nat.le_of_ble_eq_true (by kernel_rfl)) (fun ⟨x0, _⟩ h hwf w0 O q =>
  (snd78 _).1 x0 _ (top78 x0 hwf.1) w0 O q)

end Go.Proofs.YtakodkjcmacofaaDoor
