/- Several texts in one: the functions that this law reaches, and their laws. -/
import Derived.Test.YtkgacclldpicnaaDoorZ3A
import Derived.Test.YtkgacclldpicnaaDoorZ3B
import Derived.Test.YtkgacclldpicnaaDoorZ3C
import Derived.Lib.ItoaNum
import Derived.Lib.TrimByte

/- Function 22 (impl.number): its runs between cut points. Written by a program of this repo (gen). -/
set_option linter.unusedVariables false
set_option linter.unusedSimpArgs false
set_option maxRecDepth 100000
namespace Go.Proofs.YtkgacclldpicnaaDoor
open Go Go.Am Go.Proofs
def ext22 : Ext := []
theorem ext22Ok : ExtOk Tryd.prog ext22 := trivial

noncomputable def b22 : Code := bodyOf Tryd.f22
theorem hb22 : Tryd.f22.body = some b22 := by kernel_rfl
def sig22 : List AT := [AT.v (Ty.str)]
def tys22 : List Ty := [Ty.int IntKind.i64]
def kds22 : List RK := []
def oks22 : List AT := owns sig22
def E22_5 (v3 : Int) (v17 : Int) (x0 : ByteArray) : Env := [(3, PV.a (Atom.val (Value.int IntKind.i64 v3))), (15, PV.a (Atom.osl 0 Option.none)), (16, PV.a (Atom.val (Value.int IntKind.i64 (↑(List.length (bytesOf x0)) : Int)))), (17, PV.a (Atom.val (Value.int IntKind.i64 v17)))]
def L22_5 (v3 : Int) (v17 : Int) (x0 : ByteArray) : Heap := [Option.some (Arr.mk (Ty.int IntKind.u8) (bytesOf x0) Bool.false Option.none Option.none)]
mutual
def R22 : Nat → ByteArray → List Dyn → Prop
  | 0, _, _ => False
  | n + 1, x0, ds => (if (Decidable.decide ((↑(ByteArray.size x0) : Int) < 1)) = true then (ds = [Dyn.mk (Ty.int IntKind.i64) (-1)]) else (if (Decidable.decide ((↑(ByteArray.size x0) : Int) > 12)) = true then (ds = [Dyn.mk (Ty.int IntKind.i64) (-1)]) else (R22_5 n (0) (0) (x0) ds)))
def R22_5 : Nat → Int → Int → ByteArray → List Dyn → Prop
  | 0, _, _, _, _ => False
  | n + 1, v3, v17, x0, ds => (if (Decidable.decide (v17 < (↑(List.length (bytesOf x0)) : Int))) = true then ((0 ≤ v17) ∧ (v17 < (↑(List.length (bytesOf x0)) : Int)) ∧ (if (Decidable.decide (List.getD (bytesOf x0) (Int.toNat v17) 0 < 48)) = true then (ds = [Dyn.mk (Ty.int IntKind.i64) (-1)]) else (if (Decidable.decide (List.getD (bytesOf x0) (Int.toNat v17) 0 > 57)) = true then (ds = [Dyn.mk (Ty.int IntKind.i64) (-1)]) else ((InR IntKind.i64 (10 * v3)) ∧ ((InR IntKind.u8 (List.getD (bytesOf x0) (Int.toNat v17) 0 - 48)) ∧ ((InR IntKind.i64 (List.getD (bytesOf x0) (Int.toNat v17) 0 - 48)) ∧ ((InR IntKind.i64 (10 * v3 + (List.getD (bytesOf x0) (Int.toNat v17) 0 - 48))) ∧ ((InR IntKind.i64 (v17 + 1)) ∧ (R22_5 n (10 * v3 + (List.getD (bytesOf x0) (Int.toNat v17) 0 - 48)) (v17 + 1) (x0) ds))))))))) else (ds = [Dyn.mk (Ty.int IntKind.i64) v3]))
end
theorem p22_0 (x0 : ByteArray) : runF tab ext22 false 35 [] 2000 [] oks22 kds22 tys22 Tryd.f22.results [true, true] [.code b22] (entE 0 0 sig22 (x0, ())) (entL sig22 (x0, ())) = some ([Dyn.mk (Ty.int IntKind.i64) (-1)], [], [Decidable.decide ((↑(ByteArray.size x0) : Int) < 1) = Bool.true, Bool.true = Bool.true]) := by kernel_rfl
theorem p22_1 (x0 : ByteArray) : runF tab ext22 false 35 [] 2000 [] oks22 kds22 tys22 Tryd.f22.results [false, true] [.code b22] (entE 0 0 sig22 (x0, ())) (entL sig22 (x0, ())) = some ([Dyn.mk (Ty.int IntKind.i64) (-1)], [], [Decidable.decide ((↑(ByteArray.size x0) : Int) < 1) = Bool.false, Decidable.decide ((↑(ByteArray.size x0) : Int) > 12) = Bool.true]) := by kernel_rfl
theorem p22_2 (x0 : ByteArray) : Am.runN tab ext22 false 35 [] 2000 [] [] [3, 15, 16, 17] [0] [false, false] [.code b22] (entE 0 0 sig22 (x0, ())) (entL sig22 (x0, ())) = some (cutAt b22 5, E22_5 (0) (0) (x0), L22_5 (0) (0) (x0), [Decidable.decide ((↑(ByteArray.size x0) : Int) < 1) = Bool.false, Decidable.decide ((↑(ByteArray.size x0) : Int) > 12) = Bool.false]) := by kernel_rfl
theorem p22_3 (v3 : Int) (v17 : Int) (x0 : ByteArray) : runF tab ext22 false 35 [] 2000 [] oks22 kds22 tys22 Tryd.f22.results [true, true, true] (cutAt b22 5) (E22_5 v3 v17 x0) (L22_5 v3 v17 x0) = some ([Dyn.mk (Ty.int IntKind.i64) (-1)], [], [Decidable.decide (v17 < (↑(List.length (bytesOf x0)) : Int)) = Bool.true, 0 ≤ v17, v17 < (↑(List.length (bytesOf x0)) : Int), Decidable.decide (List.getD (bytesOf x0) (Int.toNat v17) 0 < 48) = Bool.true, Bool.true = Bool.true]) := by kernel_rfl
theorem p22_4 (v3 : Int) (v17 : Int) (x0 : ByteArray) : runF tab ext22 false 35 [] 2000 [] oks22 kds22 tys22 Tryd.f22.results [true, false, true] (cutAt b22 5) (E22_5 v3 v17 x0) (L22_5 v3 v17 x0) = some ([Dyn.mk (Ty.int IntKind.i64) (-1)], [], [Decidable.decide (v17 < (↑(List.length (bytesOf x0)) : Int)) = Bool.true, 0 ≤ v17, v17 < (↑(List.length (bytesOf x0)) : Int), Decidable.decide (List.getD (bytesOf x0) (Int.toNat v17) 0 < 48) = Bool.false, Decidable.decide (List.getD (bytesOf x0) (Int.toNat v17) 0 > 57) = Bool.true]) := by kernel_rfl
theorem p22_5 (v3 : Int) (v17 : Int) (x0 : ByteArray) : Am.runN tab ext22 false 35 [] 2000 [] [] [3, 15, 16, 17] [0] [true, false, false] (cutAt b22 5) (E22_5 v3 v17 x0) (L22_5 v3 v17 x0) = some (cutAt b22 5, E22_5 (10 * v3 + (List.getD (bytesOf x0) (Int.toNat v17) 0 - 48)) (v17 + 1) (x0), L22_5 (10 * v3 + (List.getD (bytesOf x0) (Int.toNat v17) 0 - 48)) (v17 + 1) (x0), [Decidable.decide (v17 < (↑(List.length (bytesOf x0)) : Int)) = Bool.true, 0 ≤ v17, v17 < (↑(List.length (bytesOf x0)) : Int), Decidable.decide (List.getD (bytesOf x0) (Int.toNat v17) 0 < 48) = Bool.false, Decidable.decide (List.getD (bytesOf x0) (Int.toNat v17) 0 > 57) = Bool.false, InR IntKind.i64 (10 * v3), InR IntKind.u8 (List.getD (bytesOf x0) (Int.toNat v17) 0 - 48), InR IntKind.i64 (List.getD (bytesOf x0) (Int.toNat v17) 0 - 48), InR IntKind.i64 (10 * v3 + (List.getD (bytesOf x0) (Int.toNat v17) 0 - 48)), InR IntKind.i64 (v17 + 1)]) := by kernel_rfl
theorem p22_6 (v3 : Int) (v17 : Int) (x0 : ByteArray) : runF tab ext22 false 35 [] 2000 [] oks22 kds22 tys22 Tryd.f22.results [false] (cutAt b22 5) (E22_5 v3 v17 x0) (L22_5 v3 v17 x0) = some ([Dyn.mk (Ty.int IntKind.i64) v3], [], [Decidable.decide (v17 < (↑(List.length (bytesOf x0)) : Int)) = Bool.false]) := by kernel_rfl
theorem snd22 : ∀ n, (∀ (x0 : ByteArray) ds, R22 n x0 ds → ∀ K q, AtV Tryd.prog 22 (PostR kds22 oks22 ds [] [] q K) 35 K q [] [.code b22] (entE 0 0 sig22 (x0, ())) (entL sig22 (x0, ()))) ∧ (∀ (v3 : Int) (v17 : Int) (x0 : ByteArray) ds, R22_5 n v3 v17 x0 ds → ∀ K q, AtV Tryd.prog 22 (PostR kds22 oks22 ds [] [] q K) 35 K q [] (cutAt b22 5) (E22_5 v3 v17 x0) (L22_5 v3 v17 x0)) := by
  intro n
  induction n with
  | zero => exact ⟨fun _ _ h => by simp only [R22] at h, fun _ _ _ _ h => by simp only [R22_5] at h⟩
  | succ n ih =>
  obtain ⟨ih, ih5⟩ := ih
  refine ⟨?_, ?_⟩
  · intro x0 ds h K q
    rw [R22] at h
    by_cases b0 : (Decidable.decide ((↑(ByteArray.size x0) : Int) < 1)) = true
    · rw [if_pos b0] at h
      subst h
      exact AtV.fin Tryd.func22 tabOk ext22Ok mixed (p22_0 x0) ⟨b0, rfl, trivial⟩
    · rw [if_neg b0] at h
      replace b0 := Bool.eq_false_iff.2 b0
      by_cases b1 : (Decidable.decide ((↑(ByteArray.size x0) : Int) > 12)) = true
      · rw [if_pos b1] at h
        subst h
        exact AtV.fin Tryd.func22 tabOk ext22Ok mixed (p22_1 x0) ⟨b0, b1, trivial⟩
      · rw [if_neg b1] at h
        replace b1 := Bool.eq_false_iff.2 b1
        exact AtV.runN tabOk ext22Ok mixed (p22_2 x0) ⟨b0, b1, trivial⟩ (ih5 _ _ _ _ h K q)

  · intro v3 v17 x0 ds h K q
    rw [R22_5] at h
    by_cases b0 : (Decidable.decide (v17 < (↑(List.length (bytesOf x0)) : Int))) = true
    · rw [if_pos b0] at h
      obtain ⟨s0, s1, h⟩ := h
      by_cases b1 : (Decidable.decide (List.getD (bytesOf x0) (Int.toNat v17) 0 < 48)) = true
      · rw [if_pos b1] at h
        subst h
        exact AtV.fin Tryd.func22 tabOk ext22Ok mixed (p22_3 v3 v17 x0) ⟨b0, s0, s1, b1, rfl, trivial⟩
      · rw [if_neg b1] at h
        replace b1 := Bool.eq_false_iff.2 b1
        by_cases b2 : (Decidable.decide (List.getD (bytesOf x0) (Int.toNat v17) 0 > 57)) = true
        · rw [if_pos b2] at h
          subst h
          exact AtV.fin Tryd.func22 tabOk ext22Ok mixed (p22_4 v3 v17 x0) ⟨b0, s0, s1, b1, b2, trivial⟩
        · rw [if_neg b2] at h
          replace b2 := Bool.eq_false_iff.2 b2
          obtain ⟨s2, h⟩ := h
          obtain ⟨s3, h⟩ := h
          obtain ⟨s4, h⟩ := h
          obtain ⟨s5, h⟩ := h
          obtain ⟨s6, h⟩ := h
          exact AtV.runN tabOk ext22Ok mixed (p22_5 v3 v17 x0) ⟨b0, s0, s1, b1, b2, s2, s3, s4, s5, s6, trivial⟩ (ih5 _ _ _ _ h K q)
    · rw [if_neg b0] at h
      replace b0 := Bool.eq_false_iff.2 b0
      subst h
      exact AtV.fin Tryd.func22 tabOk ext22Ok mixed (p22_6 v3 v17 x0) ⟨b0, trivial⟩



def num22 : List UInt8 → Int → Int
  | [], n => n
  | b :: r, n => if decide (48 ≤ b.toNat) && decide (b.toNat ≤ 57) then num22 r (10 * n + ((b.toNat : Int) - 48)) else -1
def g22_0 (x0 : ByteArray) : Int := if x0.size < 1 ∨ 12 < x0.size then -1 else num22 x0.data.toList 0
def P22 (x0 : ByteArray) : Prop := True

theorem run22 (x0 : ByteArray) (hs : x0.size ≤ 12) : ∀ (k i m : Nat), i + k = x0.size → m < 10 ^ i →
    R22_5 (k + 1) (m : Int) (i : Int) x0 [⟨.int .i64, num22 (x0.data.toList.drop i) (m : Int)⟩] := by
  intro k
  have hll : x0.data.toList.length = x0.size := rfl
  have hbl : (bytesOf x0).length = x0.size := by unfold bytesOf; rw [List.length_map]; rfl
  induction k with
  | zero =>
    intro i m hi hm
    rw [R22_5, if_neg (by rw [hbl]; simp; omega), List.drop_of_length_le (by omega)]
    rfl
  | succ k ih =>
    intro i m hi hm
    have hlt : i < x0.data.toList.length := by rw [hll]; omega
    have hcons : x0.data.toList.drop i = x0.data.toList.getD i 0 :: x0.data.toList.drop (i + 1) := drop_get _ i 0 hlt
    have hbyte : (bytesOf x0).getD i 0 = ((x0.data.toList.getD i 0).toNat : Int) := by
      unfold bytesOf
      rw [List.getD_eq_getElem?_getD, List.getD_eq_getElem?_getD, List.getElem?_map, List.getElem?_eq_getElem hlt]
      rfl
    rw [R22_5, if_pos (by rw [hbl]; simp; omega), hcons]
    simp only [Int.toNat_natCast, hbyte, hbl]
    generalize x0.data.toList.getD i 0 = b at *
    refine ⟨by omega, by omega, ?_⟩
    unfold num22
    by_cases h1 : b.toNat < 48
    · have h1' : (b.toNat : Int) < 48 := by omega
      have h1'' : ¬ 48 ≤ b.toNat := by omega
      simp [h1', h1'']
    · have h1' : ¬ (b.toNat : Int) < 48 := by omega
      have h1'' : 48 ≤ b.toNat := by omega
      by_cases h2 : b.toNat > 57
      · have h2' : (b.toNat : Int) > 57 := by omega
        have h2'' : ¬ b.toNat ≤ 57 := by omega
        simp [h1', h2', h2'']
      · have h2' : ¬ (b.toNat : Int) > 57 := by omega
        have h2'' : b.toNat ≤ 57 := by omega
        have hp : 10 ^ i ≤ 10 ^ 11 := Nat.pow_le_pow_right (by decide) (by omega)
        have hm2 : m < 100000000000 := Nat.lt_of_lt_of_le hm hp
        simp only [h1', h1'', h2', h2'', decide_true, decide_false, Bool.and_self, Bool.false_eq_true, if_false, if_true]
        refine ⟨by rw [i64_iff]; omega, by rw [u8_iff]; omega, by rw [i64_iff]; omega, by rw [i64_iff]; omega, by rw [i64_iff]; omega, ?_⟩
        have e1 : 10 * (m : Int) + ((b.toNat : Int) - 48) = ((10 * m + (b.toNat - 48) : Nat) : Int) := by omega
        have e2 : (i : Int) + 1 = ((i + 1 : Nat) : Int) := by omega
        rw [e1, e2]
        exact ih (i + 1) (10 * m + (b.toNat - 48)) (by omega) (by rw [Nat.pow_succ]; omega)

theorem top22 (x0 : ByteArray) : R22 (x0.size + 1 + 1) x0 [⟨.int .i64, g22_0 x0⟩] := by
  rw [R22]
  unfold g22_0
  by_cases h1 : x0.size < 1
  · rw [if_pos (by simp; omega), if_pos (.inl h1)]
  · rw [if_neg (by simp; omega)]
    by_cases h2 : 12 < x0.size
    · rw [if_pos (by simp; omega), if_pos (.inr h2)]
    · rw [if_neg (by simp; omega), if_neg (by omega)]
      exact run22 x0 (by omega) x0.size 0 0 (by omega) (by decide)

def S22 : Am.Spec := { sig := sig22, pre := fun ⟨x0, _⟩ => P22 x0, res := fun ⟨x0, _⟩ => [⟨.int .i64, g22_0 x0⟩] }
theorem con22 : Contract Tryd.prog 22 S22 := contract_of Tryd.func22 hb22 (Nat.le_of_ble_eq_true (by kernel_rfl)) (fun ⟨x0, _⟩ h hwf K q =>
  (snd22 _).1 x0 _ (top22 x0) K q)

end Go.Proofs.YtkgacclldpicnaaDoor

/- Function 8 (impl.ReadDate): its runs between cut points. Written by a program of this repo (gen). -/
set_option linter.unusedVariables false
set_option linter.unusedSimpArgs false
set_option maxRecDepth 100000
namespace Go.Proofs.YtkgacclldpicnaaDoor
open Go Go.Am Go.Proofs
def ext8 : Ext := [(21, S21), (22, S22), (7, S7), (9, S9)]
theorem call8_21 : Callable Tryd.prog 21 := ⟨Tryd.f21, Tryd.func21, by kernel_rfl, by kernel_rfl⟩
theorem call8_22 : Callable Tryd.prog 22 := ⟨Tryd.f22, Tryd.func22, by kernel_rfl, by kernel_rfl⟩
theorem call8_7 : Callable Tryd.prog 7 := ⟨Tryd.f7, Tryd.func7, by kernel_rfl, by kernel_rfl⟩
theorem call8_9 : Callable Tryd.prog 9 := ⟨Tryd.f9, Tryd.func9, by kernel_rfl, by kernel_rfl⟩
theorem ext8Ok : ExtOk Tryd.prog ext8 := ⟨⟨call8_21, con21⟩, ⟨call8_22, con22⟩, ⟨call8_7, con7⟩, ⟨call8_9, con9⟩, trivial⟩

noncomputable def b8 : Code := bodyOf Tryd.f8
theorem hb8 : Tryd.f8.body = some b8 := by kernel_rfl
def sig8 : List AT := [AT.v (Ty.str)]
def tys8 : List Ty := [Ty.int IntKind.i64, Ty.bool]
def kds8 : List RK := []
def oks8 : List AT := owns sig8
def P8 (x0 : ByteArray) : Prop := ((P21 x0 (ByteArray.mk #[45])) ∧ (if ((↑(List.length (g21_0 x0 (ByteArray.mk #[45]))) : Int) != 3) = true then True else ((0 < (↑(List.length (g21_0 x0 (ByteArray.mk #[45]))) : Int)) ∧ ((1 < (↑(List.length (g21_0 x0 (ByteArray.mk #[45]))) : Int)) ∧ ((2 < (↑(List.length (g21_0 x0 (ByteArray.mk #[45]))) : Int)) ∧ ((P7 (g22_0 (List.getD (g21_0 x0 (ByteArray.mk #[45])) 0 ByteArray.empty)) (g22_0 (List.getD (g21_0 x0 (ByteArray.mk #[45])) 1 ByteArray.empty)) (g22_0 (List.getD (g21_0 x0 (ByteArray.mk #[45])) 2 ByteArray.empty))) ∧ (if (g7_1 (g22_0 (List.getD (g21_0 x0 (ByteArray.mk #[45])) 0 ByteArray.empty)) (g22_0 (List.getD (g21_0 x0 (ByteArray.mk #[45])) 1 ByteArray.empty)) (g22_0 (List.getD (g21_0 x0 (ByteArray.mk #[45])) 2 ByteArray.empty)) != 0) = true then True else ((P9 (g7_0 (g22_0 (List.getD (g21_0 x0 (ByteArray.mk #[45])) 0 ByteArray.empty)) (g22_0 (List.getD (g21_0 x0 (ByteArray.mk #[45])) 1 ByteArray.empty)) (g22_0 (List.getD (g21_0 x0 (ByteArray.mk #[45])) 2 ByteArray.empty)))) ∧ True))))))))
def g8_0 (x0 : ByteArray) : Int := (if ((↑(List.length (g21_0 x0 (ByteArray.mk #[45]))) : Int) != 3) = true then 0 else (if (g7_1 (g22_0 (List.getD (g21_0 x0 (ByteArray.mk #[45])) 0 ByteArray.empty)) (g22_0 (List.getD (g21_0 x0 (ByteArray.mk #[45])) 1 ByteArray.empty)) (g22_0 (List.getD (g21_0 x0 (ByteArray.mk #[45])) 2 ByteArray.empty)) != 0) = true then 0 else (if (!ByteArray.toList (g9_0 (g7_0 (g22_0 (List.getD (g21_0 x0 (ByteArray.mk #[45])) 0 ByteArray.empty)) (g22_0 (List.getD (g21_0 x0 (ByteArray.mk #[45])) 1 ByteArray.empty)) (g22_0 (List.getD (g21_0 x0 (ByteArray.mk #[45])) 2 ByteArray.empty)))) == ByteArray.toList x0) = true then 0 else g7_0 (g22_0 (List.getD (g21_0 x0 (ByteArray.mk #[45])) 0 ByteArray.empty)) (g22_0 (List.getD (g21_0 x0 (ByteArray.mk #[45])) 1 ByteArray.empty)) (g22_0 (List.getD (g21_0 x0 (ByteArray.mk #[45])) 2 ByteArray.empty)))))
def g8_1 (x0 : ByteArray) : Bool := (if ((↑(List.length (g21_0 x0 (ByteArray.mk #[45]))) : Int) != 3) = true then Bool.false else (if (g7_1 (g22_0 (List.getD (g21_0 x0 (ByteArray.mk #[45])) 0 ByteArray.empty)) (g22_0 (List.getD (g21_0 x0 (ByteArray.mk #[45])) 1 ByteArray.empty)) (g22_0 (List.getD (g21_0 x0 (ByteArray.mk #[45])) 2 ByteArray.empty)) != 0) = true then Bool.false else (if (!ByteArray.toList (g9_0 (g7_0 (g22_0 (List.getD (g21_0 x0 (ByteArray.mk #[45])) 0 ByteArray.empty)) (g22_0 (List.getD (g21_0 x0 (ByteArray.mk #[45])) 1 ByteArray.empty)) (g22_0 (List.getD (g21_0 x0 (ByteArray.mk #[45])) 2 ByteArray.empty)))) == ByteArray.toList x0) = true then Bool.false else Bool.true)))
theorem p8_0 (x0 : ByteArray) : runF tab ext8 false 37 [] 2000 [] oks8 kds8 tys8 Tryd.f8.results [true] [.code b8] (entE 0 0 sig8 (x0, ())) (entL sig8 (x0, ())) = some ([Dyn.mk (Ty.int IntKind.i64) 0, Dyn.mk Ty.bool Bool.false], [], [P21 x0 (ByteArray.mk #[45]), ((↑(List.length (g21_0 x0 (ByteArray.mk #[45]))) : Int) != 3) = Bool.true]) := by kernel_rfl
theorem p8_1 (x0 : ByteArray) : runF tab ext8 false 37 [] 2000 [] oks8 kds8 tys8 Tryd.f8.results [false, true, true] [.code b8] (entE 0 0 sig8 (x0, ())) (entL sig8 (x0, ())) = some ([Dyn.mk (Ty.int IntKind.i64) 0, Dyn.mk Ty.bool Bool.false], [], [P21 x0 (ByteArray.mk #[45]), ((↑(List.length (g21_0 x0 (ByteArray.mk #[45]))) : Int) != 3) = Bool.false, (0 : Int) ≤ (0 : Int), 0 < (↑(List.length (g21_0 x0 (ByteArray.mk #[45]))) : Int), True, (0 : Int) ≤ (1 : Int), 1 < (↑(List.length (g21_0 x0 (ByteArray.mk #[45]))) : Int), True, (0 : Int) ≤ (2 : Int), 2 < (↑(List.length (g21_0 x0 (ByteArray.mk #[45]))) : Int), True, P7 (g22_0 (List.getD (g21_0 x0 (ByteArray.mk #[45])) 0 ByteArray.empty)) (g22_0 (List.getD (g21_0 x0 (ByteArray.mk #[45])) 1 ByteArray.empty)) (g22_0 (List.getD (g21_0 x0 (ByteArray.mk #[45])) 2 ByteArray.empty)), (g7_1 (g22_0 (List.getD (g21_0 x0 (ByteArray.mk #[45])) 0 ByteArray.empty)) (g22_0 (List.getD (g21_0 x0 (ByteArray.mk #[45])) 1 ByteArray.empty)) (g22_0 (List.getD (g21_0 x0 (ByteArray.mk #[45])) 2 ByteArray.empty)) != 0) = Bool.true, Bool.true = Bool.true]) := by kernel_rfl
theorem p8_2 (x0 : ByteArray) : runF tab ext8 false 37 [] 2000 [] oks8 kds8 tys8 Tryd.f8.results [false, false, true] [.code b8] (entE 0 0 sig8 (x0, ())) (entL sig8 (x0, ())) = some ([Dyn.mk (Ty.int IntKind.i64) 0, Dyn.mk Ty.bool Bool.false], [], [P21 x0 (ByteArray.mk #[45]), ((↑(List.length (g21_0 x0 (ByteArray.mk #[45]))) : Int) != 3) = Bool.false, (0 : Int) ≤ (0 : Int), 0 < (↑(List.length (g21_0 x0 (ByteArray.mk #[45]))) : Int), True, (0 : Int) ≤ (1 : Int), 1 < (↑(List.length (g21_0 x0 (ByteArray.mk #[45]))) : Int), True, (0 : Int) ≤ (2 : Int), 2 < (↑(List.length (g21_0 x0 (ByteArray.mk #[45]))) : Int), True, P7 (g22_0 (List.getD (g21_0 x0 (ByteArray.mk #[45])) 0 ByteArray.empty)) (g22_0 (List.getD (g21_0 x0 (ByteArray.mk #[45])) 1 ByteArray.empty)) (g22_0 (List.getD (g21_0 x0 (ByteArray.mk #[45])) 2 ByteArray.empty)), (g7_1 (g22_0 (List.getD (g21_0 x0 (ByteArray.mk #[45])) 0 ByteArray.empty)) (g22_0 (List.getD (g21_0 x0 (ByteArray.mk #[45])) 1 ByteArray.empty)) (g22_0 (List.getD (g21_0 x0 (ByteArray.mk #[45])) 2 ByteArray.empty)) != 0) = Bool.false, P9 (g7_0 (g22_0 (List.getD (g21_0 x0 (ByteArray.mk #[45])) 0 ByteArray.empty)) (g22_0 (List.getD (g21_0 x0 (ByteArray.mk #[45])) 1 ByteArray.empty)) (g22_0 (List.getD (g21_0 x0 (ByteArray.mk #[45])) 2 ByteArray.empty))), (!ByteArray.toList (g9_0 (g7_0 (g22_0 (List.getD (g21_0 x0 (ByteArray.mk #[45])) 0 ByteArray.empty)) (g22_0 (List.getD (g21_0 x0 (ByteArray.mk #[45])) 1 ByteArray.empty)) (g22_0 (List.getD (g21_0 x0 (ByteArray.mk #[45])) 2 ByteArray.empty)))) == ByteArray.toList x0) = Bool.true]) := by kernel_rfl
theorem p8_3 (x0 : ByteArray) : runF tab ext8 false 37 [] 2000 [] oks8 kds8 tys8 Tryd.f8.results [false, false, false] [.code b8] (entE 0 0 sig8 (x0, ())) (entL sig8 (x0, ())) = some ([Dyn.mk (Ty.int IntKind.i64) (g7_0 (g22_0 (List.getD (g21_0 x0 (ByteArray.mk #[45])) 0 ByteArray.empty)) (g22_0 (List.getD (g21_0 x0 (ByteArray.mk #[45])) 1 ByteArray.empty)) (g22_0 (List.getD (g21_0 x0 (ByteArray.mk #[45])) 2 ByteArray.empty))), Dyn.mk Ty.bool Bool.true], [], [P21 x0 (ByteArray.mk #[45]), ((↑(List.length (g21_0 x0 (ByteArray.mk #[45]))) : Int) != 3) = Bool.false, (0 : Int) ≤ (0 : Int), 0 < (↑(List.length (g21_0 x0 (ByteArray.mk #[45]))) : Int), True, (0 : Int) ≤ (1 : Int), 1 < (↑(List.length (g21_0 x0 (ByteArray.mk #[45]))) : Int), True, (0 : Int) ≤ (2 : Int), 2 < (↑(List.length (g21_0 x0 (ByteArray.mk #[45]))) : Int), True, P7 (g22_0 (List.getD (g21_0 x0 (ByteArray.mk #[45])) 0 ByteArray.empty)) (g22_0 (List.getD (g21_0 x0 (ByteArray.mk #[45])) 1 ByteArray.empty)) (g22_0 (List.getD (g21_0 x0 (ByteArray.mk #[45])) 2 ByteArray.empty)), (g7_1 (g22_0 (List.getD (g21_0 x0 (ByteArray.mk #[45])) 0 ByteArray.empty)) (g22_0 (List.getD (g21_0 x0 (ByteArray.mk #[45])) 1 ByteArray.empty)) (g22_0 (List.getD (g21_0 x0 (ByteArray.mk #[45])) 2 ByteArray.empty)) != 0) = Bool.false, P9 (g7_0 (g22_0 (List.getD (g21_0 x0 (ByteArray.mk #[45])) 0 ByteArray.empty)) (g22_0 (List.getD (g21_0 x0 (ByteArray.mk #[45])) 1 ByteArray.empty)) (g22_0 (List.getD (g21_0 x0 (ByteArray.mk #[45])) 2 ByteArray.empty))), (!ByteArray.toList (g9_0 (g7_0 (g22_0 (List.getD (g21_0 x0 (ByteArray.mk #[45])) 0 ByteArray.empty)) (g22_0 (List.getD (g21_0 x0 (ByteArray.mk #[45])) 1 ByteArray.empty)) (g22_0 (List.getD (g21_0 x0 (ByteArray.mk #[45])) 2 ByteArray.empty)))) == ByteArray.toList x0) = Bool.false]) := by kernel_rfl
theorem at8 (x0 : ByteArray) (h : P8 x0) (K : Ctx) (q : Nat → Value) : AtV Tryd.prog 8 (PostR kds8 oks8 [⟨Ty.int IntKind.i64, g8_0 x0⟩, ⟨Ty.bool, g8_1 x0⟩] [] [] q K) 37 K q [] [.code b8] (entE 0 0 sig8 (x0, ())) (entL sig8 (x0, ())) := by
  unfold P8 at h
  unfold g8_0 g8_1
  obtain ⟨s0, h⟩ := h
  by_cases b0 : ((↑(List.length (g21_0 x0 (ByteArray.mk #[45]))) : Int) != 3) = true
  · try simp only [if_pos b0] at h ⊢
    exact AtV.fin Tryd.func8 tabOk ext8Ok mixed (p8_0 x0) ⟨s0, b0, trivial⟩
  · try simp only [if_neg b0] at h ⊢
    replace b0 := Bool.eq_false_iff.2 b0
    obtain ⟨s1, h⟩ := h
    obtain ⟨s2, h⟩ := h
    obtain ⟨s3, h⟩ := h
    obtain ⟨s4, h⟩ := h
    by_cases b1 : (g7_1 (g22_0 (List.getD (g21_0 x0 (ByteArray.mk #[45])) 0 ByteArray.empty)) (g22_0 (List.getD (g21_0 x0 (ByteArray.mk #[45])) 1 ByteArray.empty)) (g22_0 (List.getD (g21_0 x0 (ByteArray.mk #[45])) 2 ByteArray.empty)) != 0) = true
    · try simp only [if_pos b1] at h ⊢
      exact AtV.fin Tryd.func8 tabOk ext8Ok mixed (p8_1 x0) ⟨s0, b0, (by decide), s1, trivial, (by decide), s2, trivial, (by decide), s3, trivial, s4, b1, rfl, trivial⟩
    · try simp only [if_neg b1] at h ⊢
      replace b1 := Bool.eq_false_iff.2 b1
      obtain ⟨s5, h⟩ := h
      by_cases b2 : (!ByteArray.toList (g9_0 (g7_0 (g22_0 (List.getD (g21_0 x0 (ByteArray.mk #[45])) 0 ByteArray.empty)) (g22_0 (List.getD (g21_0 x0 (ByteArray.mk #[45])) 1 ByteArray.empty)) (g22_0 (List.getD (g21_0 x0 (ByteArray.mk #[45])) 2 ByteArray.empty)))) == ByteArray.toList x0) = true
      · try simp only [if_pos b2] at h ⊢
        exact AtV.fin Tryd.func8 tabOk ext8Ok mixed (p8_2 x0) ⟨s0, b0, (by decide), s1, trivial, (by decide), s2, trivial, (by decide), s3, trivial, s4, b1, s5, b2, trivial⟩
      · try simp only [if_neg b2] at h ⊢
        replace b2 := Bool.eq_false_iff.2 b2
        exact AtV.fin Tryd.func8 tabOk ext8Ok mixed (p8_3 x0) ⟨s0, b0, (by decide), s1, trivial, (by decide), s2, trivial, (by decide), s3, trivial, s4, b1, s5, b2, trivial⟩

def S8 : Am.Spec := { sig := sig8, pre := fun ⟨x0, _⟩ => P8 x0, res := fun ⟨x0, _⟩ => [⟨Ty.int IntKind.i64, g8_0 x0⟩, ⟨Ty.bool, g8_1 x0⟩], kds := kds8 }
theorem con8 : Contract Tryd.prog 8 S8 := contract_of Tryd.func8 hb8 (Nat.le_of_ble_eq_true (by kernel_rfl)) (fun ⟨x0, _⟩ h _ K q => at8 x0 h K q)


end Go.Proofs.YtkgacclldpicnaaDoor

/- Function 25 (impl.weekday): its runs between cut points. Written by a program of this repo (gen). -/
set_option linter.unusedVariables false
set_option linter.unusedSimpArgs false
set_option maxRecDepth 100000
namespace Go.Proofs.YtkgacclldpicnaaDoor
open Go Go.Am Go.Proofs
def ext25 : Ext := []
theorem ext25Ok : ExtOk Tryd.prog ext25 := trivial

noncomputable def b25 : Code := bodyOf Tryd.f25
theorem hb25 : Tryd.f25.body = some b25 := by kernel_rfl
def sig25 : List AT := [AT.v (Ty.int IntKind.i64)]
def tys25 : List Ty := [Ty.int IntKind.i64]
def kds25 : List RK := []
def oks25 : List AT := owns sig25
def P25 (x0 : Int) : Prop := ((InR IntKind.i64 (x0 + 5)) ∧ ((InR IntKind.i64 (Int.tmod (x0 + 5) 7)) ∧ True))
def g25_0 (x0 : Int) : Int := Int.tmod (x0 + 5) 7
theorem p25_0 (x0 : Int) : runF tab ext25 false 6 [] 2000 [] oks25 kds25 tys25 Tryd.f25.results [] [.code b25] (entE 0 0 sig25 (x0, ())) (entL sig25 (x0, ())) = some ([Dyn.mk (Ty.int IntKind.i64) (Int.tmod (x0 + 5) 7)], [], [InR IntKind.i64 (x0 + 5), (7 : Int) ≠ (0 : Int), InR IntKind.i64 (Int.tmod (x0 + 5) 7)]) := by kernel_rfl
theorem at25 (x0 : Int) (h : P25 x0) (K : Ctx) (q : Nat → Value) : AtV Tryd.prog 25 (PostR kds25 oks25 [⟨Ty.int IntKind.i64, g25_0 x0⟩] [] [] q K) 6 K q [] [.code b25] (entE 0 0 sig25 (x0, ())) (entL sig25 (x0, ())) := by
  unfold P25 at h
  unfold g25_0
  obtain ⟨s0, h⟩ := h
  obtain ⟨s1, h⟩ := h
  exact AtV.fin Tryd.func25 tabOk ext25Ok mixed (p25_0 x0) ⟨s0, (by decide), s1, trivial⟩

def S25 : Am.Spec := { sig := sig25, pre := fun ⟨x0, _⟩ => P25 x0, res := fun ⟨x0, _⟩ => [⟨Ty.int IntKind.i64, g25_0 x0⟩], kds := kds25 }
theorem con25 : Contract Tryd.prog 25 S25 := contract_of Tryd.func25 hb25 (Nat.le_of_ble_eq_true (by kernel_rfl)) (fun ⟨x0, _⟩ h _ K q => at25 x0 h K q)


end Go.Proofs.YtkgacclldpicnaaDoor

/- Function 10 (impl.WeekdayOf): its runs between cut points. Written by a program of this repo (gen). -/
set_option linter.unusedVariables false
set_option linter.unusedSimpArgs false
set_option maxRecDepth 100000
namespace Go.Proofs.YtkgacclldpicnaaDoor
open Go Go.Am Go.Proofs
def ext10 : Ext := [(16, S16), (25, S25)]
theorem call10_16 : Callable Tryd.prog 16 := ⟨Tryd.f16, Tryd.func16, by kernel_rfl, by kernel_rfl⟩
theorem call10_25 : Callable Tryd.prog 25 := ⟨Tryd.f25, Tryd.func25, by kernel_rfl, by kernel_rfl⟩
theorem ext10Ok : ExtOk Tryd.prog ext10 := ⟨⟨call10_16, con16⟩, ⟨call10_25, con25⟩, trivial⟩

noncomputable def b10 : Code := bodyOf Tryd.f10
theorem hb10 : Tryd.f10.body = some b10 := by kernel_rfl
def sig10 : List AT := [AT.v (Ty.int IntKind.i64)]
def tys10 : List Ty := [Ty.int IntKind.i64, Ty.int IntKind.i64]
def kds10 : List RK := []
def oks10 : List AT := owns sig10
def P10 (x0 : Int) : Prop := (if (!g16_0 x0) = true then True else ((P25 x0) ∧ True))
def g10_0 (x0 : Int) : Int := (if (!g16_0 x0) = true then 0 else g25_0 x0)
def g10_1 (x0 : Int) : Int := (if (!g16_0 x0) = true then 2 else 0)
theorem p10_0 (x0 : Int) : runF tab ext10 false 9 [] 2000 [] oks10 kds10 tys10 Tryd.f10.results [true] [.code b10] (entE 0 0 sig10 (x0, ())) (entL sig10 (x0, ())) = some ([Dyn.mk (Ty.int IntKind.i64) 0, Dyn.mk (Ty.int IntKind.i64) 2], [], [True, (!g16_0 x0) = Bool.true]) := by kernel_rfl
theorem p10_1 (x0 : Int) : runF tab ext10 false 9 [] 2000 [] oks10 kds10 tys10 Tryd.f10.results [false] [.code b10] (entE 0 0 sig10 (x0, ())) (entL sig10 (x0, ())) = some ([Dyn.mk (Ty.int IntKind.i64) (g25_0 x0), Dyn.mk (Ty.int IntKind.i64) 0], [], [True, (!g16_0 x0) = Bool.false, P25 x0]) := by kernel_rfl
theorem at10 (x0 : Int) (h : P10 x0) (K : Ctx) (q : Nat → Value) : AtV Tryd.prog 10 (PostR kds10 oks10 [⟨Ty.int IntKind.i64, g10_0 x0⟩, ⟨Ty.int IntKind.i64, g10_1 x0⟩] [] [] q K) 9 K q [] [.code b10] (entE 0 0 sig10 (x0, ())) (entL sig10 (x0, ())) := by
  unfold P10 at h
  unfold g10_0 g10_1
  by_cases b0 : (!g16_0 x0) = true
  · try simp only [if_pos b0] at h ⊢
    exact AtV.fin Tryd.func10 tabOk ext10Ok mixed (p10_0 x0) ⟨trivial, b0, trivial⟩
  · try simp only [if_neg b0] at h ⊢
    replace b0 := Bool.eq_false_iff.2 b0
    obtain ⟨s0, h⟩ := h
    exact AtV.fin Tryd.func10 tabOk ext10Ok mixed (p10_1 x0) ⟨trivial, b0, s0, trivial⟩

def S10 : Am.Spec := { sig := sig10, pre := fun ⟨x0, _⟩ => P10 x0, res := fun ⟨x0, _⟩ => [⟨Ty.int IntKind.i64, g10_0 x0⟩, ⟨Ty.int IntKind.i64, g10_1 x0⟩], kds := kds10 }
theorem con10 : Contract Tryd.prog 10 S10 := contract_of Tryd.func10 hb10 (Nat.le_of_ble_eq_true (by kernel_rfl)) (fun ⟨x0, _⟩ h _ K q => at10 x0 h K q)


end Go.Proofs.YtkgacclldpicnaaDoor

/- Function 11 (spec.DrawWorkDays): its runs between cut points. Written by a program of this repo (gen). -/
set_option linter.unusedVariables false
set_option linter.unusedSimpArgs false
set_option maxRecDepth 100000
namespace Go.Proofs.YtkgacclldpicnaaDoor
open Go Go.Am Go.Proofs
def ext11 : Ext := [(14, S14), (15, S15), (26, S26)]
theorem call11_14 : Callable Tryd.prog 14 := ⟨Tryd.f14, Tryd.func14, by kernel_rfl, by kernel_rfl⟩
theorem call11_15 : Callable Tryd.prog 15 := ⟨Tryd.f15, Tryd.func15, by kernel_rfl, by kernel_rfl⟩
theorem call11_26 : Callable Tryd.prog 26 := ⟨Tryd.f26, Tryd.func26, by kernel_rfl, by kernel_rfl⟩
theorem ext11Ok : ExtOk Tryd.prog ext11 := ⟨⟨call11_14, con14⟩, ⟨call11_15, con15⟩, ⟨call11_26, con26⟩, trivial⟩

noncomputable def b11 : Code := bodyOf Tryd.f11
theorem hb11 : Tryd.f11.body = some b11 := by kernel_rfl
def sig11 : List AT := [AT.v (Ty.sl (Ty.int IntKind.u8))]
def tys11 : List Ty := [Ty.int IntKind.i64, Ty.int IntKind.i64]
def kds11 : List RK := []
def oks11 : List AT := owns sig11
def P11 (x0 : List Int) : Prop := ((P15 (g14_0 x0)) ∧ ((P26 (u15_0 (g14_0 x0)) [0, 1, 7, 30, 365, -1, 5]) ∧ ((InR IntKind.i64 (g15_0 (g14_0 x0) + g26_0 (u15_0 (g14_0 x0)) [0, 1, 7, 30, 365, -1, 5])) ∧ True)))
def g11_0 (x0 : List Int) : Int := g15_0 (g14_0 x0)
def g11_1 (x0 : List Int) : Int := g15_0 (g14_0 x0) + g26_0 (u15_0 (g14_0 x0)) [0, 1, 7, 30, 365, -1, 5]
theorem p11_0 (x0 : List Int) : runF tab ext11 false 16 [] 2000 [] oks11 kds11 tys11 Tryd.f11.results [] [.code b11] (entE 0 0 sig11 (x0, ())) (entL sig11 (x0, ())) = some ([Dyn.mk (Ty.int IntKind.i64) (g15_0 (g14_0 x0)), Dyn.mk (Ty.int IntKind.i64) (g15_0 (g14_0 x0) + g26_0 (u15_0 (g14_0 x0)) [0, 1, 7, 30, 365, -1, 5])], [], [True, P15 (g14_0 x0), P26 (u15_0 (g14_0 x0)) [0, 1, 7, 30, 365, -1, 5], InR IntKind.i64 (g15_0 (g14_0 x0) + g26_0 (u15_0 (g14_0 x0)) [0, 1, 7, 30, 365, -1, 5])]) := by kernel_rfl
theorem at11 (x0 : List Int) (h : P11 x0) (K : Ctx) (q : Nat → Value) : AtV Tryd.prog 11 (PostR kds11 oks11 [⟨Ty.int IntKind.i64, g11_0 x0⟩, ⟨Ty.int IntKind.i64, g11_1 x0⟩] [] [] q K) 16 K q [] [.code b11] (entE 0 0 sig11 (x0, ())) (entL sig11 (x0, ())) := by
  unfold P11 at h
  unfold g11_0 g11_1
  obtain ⟨s0, h⟩ := h
  obtain ⟨s1, h⟩ := h
  obtain ⟨s2, h⟩ := h
  exact AtV.fin Tryd.func11 tabOk ext11Ok mixed (p11_0 x0) ⟨trivial, s0, s1, s2, trivial⟩

def S11 : Am.Spec := { sig := sig11, pre := fun ⟨x0, _⟩ => P11 x0, res := fun ⟨x0, _⟩ => [⟨Ty.int IntKind.i64, g11_0 x0⟩, ⟨Ty.int IntKind.i64, g11_1 x0⟩], kds := kds11 }
theorem con11 : Contract Tryd.prog 11 S11 := contract_of Tryd.func11 hb11 (Nat.le_of_ble_eq_true (by kernel_rfl)) (fun ⟨x0, _⟩ h _ K q => at11 x0 h K q)


end Go.Proofs.YtkgacclldpicnaaDoor

/- Function 12 (impl.WorkDays): its runs between cut points. Written by a program of this repo (gen). -/
set_option linter.unusedVariables false
set_option linter.unusedSimpArgs false
set_option maxRecDepth 100000
namespace Go.Proofs.YtkgacclldpicnaaDoor
open Go Go.Am Go.Proofs
def ext12 : Ext := [(16, S16), (18, S18), (25, S25)]
theorem call12_16 : Callable Tryd.prog 16 := ⟨Tryd.f16, Tryd.func16, by kernel_rfl, by kernel_rfl⟩
theorem call12_18 : Callable Tryd.prog 18 := ⟨Tryd.f18, Tryd.func18, by kernel_rfl, by kernel_rfl⟩
theorem call12_25 : Callable Tryd.prog 25 := ⟨Tryd.f25, Tryd.func25, by kernel_rfl, by kernel_rfl⟩
theorem ext12Ok : ExtOk Tryd.prog ext12 := ⟨⟨call12_16, con16⟩, ⟨call12_18, con18⟩, ⟨call12_25, con25⟩, trivial⟩

noncomputable def b12 : Code := bodyOf Tryd.f12
theorem hb12 : Tryd.f12.body = some b12 := by kernel_rfl
def sig12 : List AT := [AT.v (Ty.int IntKind.i64), AT.v (Ty.int IntKind.i64)]
def tys12 : List Ty := [Ty.int IntKind.i64, Ty.int IntKind.i64]
def kds12 : List RK := []
def oks12 : List AT := owns sig12
def E12_5 (v6 : Int) (x1 : Int) (x0 : Int) : Env := [(1, PV.a (Atom.val (Value.int IntKind.i64 x1))), (6, PV.a (Atom.val (Value.int IntKind.i64 v6))), (7, PV.a (Atom.val (Value.int IntKind.i64 x0)))]
def L12_5 (v6 : Int) (x1 : Int) (x0 : Int) : Heap := []
mutual
def R12 : Nat → Int → Int → List Dyn → Prop
  | 0, _, _, _ => False
  | n + 1, x0, x1, ds => (if (!g16_0 x0) = true then (ds = [Dyn.mk (Ty.int IntKind.i64) 0, Dyn.mk (Ty.int IntKind.i64) 2]) else (if (!g18_0 x1 x0 36525) = true then (ds = [Dyn.mk (Ty.int IntKind.i64) 0, Dyn.mk (Ty.int IntKind.i64) 2]) else (R12_5 n (0) (x1) (x0) ds)))
def R12_5 : Nat → Int → Int → Int → List Dyn → Prop
  | 0, _, _, _, _ => False
  | n + 1, v6, x1, x0, ds => (if (Decidable.decide (x0 < x1)) = true then ((P25 x0) ∧ (if (Decidable.decide (g25_0 x0 < 5)) = true then ((InR IntKind.i64 (v6 + 1)) ∧ ((InR IntKind.i64 (x0 + 1)) ∧ (R12_5 n (v6 + 1) (x1) (x0 + 1) ds))) else ((InR IntKind.i64 (x0 + 1)) ∧ (R12_5 n (v6) (x1) (x0 + 1) ds)))) else (ds = [Dyn.mk (Ty.int IntKind.i64) v6, Dyn.mk (Ty.int IntKind.i64) 0]))
end
theorem p12_0 (x0 : Int) (x1 : Int) : runF tab ext12 false 29 [] 2000 [] oks12 kds12 tys12 Tryd.f12.results [true, true] [.code b12] (entE 0 0 sig12 (x0, x1, ())) (entL sig12 (x0, x1, ())) = some ([Dyn.mk (Ty.int IntKind.i64) 0, Dyn.mk (Ty.int IntKind.i64) 2], [], [True, (!g16_0 x0) = Bool.true, Bool.true = Bool.true]) := by kernel_rfl
theorem p12_1 (x0 : Int) (x1 : Int) : runF tab ext12 false 29 [] 2000 [] oks12 kds12 tys12 Tryd.f12.results [false, true] [.code b12] (entE 0 0 sig12 (x0, x1, ())) (entL sig12 (x0, x1, ())) = some ([Dyn.mk (Ty.int IntKind.i64) 0, Dyn.mk (Ty.int IntKind.i64) 2], [], [True, (!g16_0 x0) = Bool.false, True, (!g18_0 x1 x0 36525) = Bool.true]) := by kernel_rfl
theorem p12_2 (x0 : Int) (x1 : Int) : Am.runN tab ext12 false 29 [] 2000 [] [] [1, 6, 7] [] [false, false] [.code b12] (entE 0 0 sig12 (x0, x1, ())) (entL sig12 (x0, x1, ())) = some (cutAt b12 5, E12_5 (0) (x1) (x0), L12_5 (0) (x1) (x0), [True, (!g16_0 x0) = Bool.false, True, (!g18_0 x1 x0 36525) = Bool.false]) := by kernel_rfl
theorem p12_3 (v6 : Int) (x1 : Int) (x0 : Int) : Am.runN tab ext12 false 29 [] 2000 [] [] [1, 6, 7] [] [true, true] (cutAt b12 5) (E12_5 v6 x1 x0) (L12_5 v6 x1 x0) = some (cutAt b12 5, E12_5 (v6 + 1) (x1) (x0 + 1), L12_5 (v6 + 1) (x1) (x0 + 1), [Decidable.decide (x0 < x1) = Bool.true, P25 x0, Decidable.decide (g25_0 x0 < 5) = Bool.true, InR IntKind.i64 (v6 + 1), InR IntKind.i64 (x0 + 1)]) := by kernel_rfl
theorem p12_4 (v6 : Int) (x1 : Int) (x0 : Int) : Am.runN tab ext12 false 29 [] 2000 [] [] [1, 6, 7] [] [true, false] (cutAt b12 5) (E12_5 v6 x1 x0) (L12_5 v6 x1 x0) = some (cutAt b12 5, E12_5 (v6) (x1) (x0 + 1), L12_5 (v6) (x1) (x0 + 1), [Decidable.decide (x0 < x1) = Bool.true, P25 x0, Decidable.decide (g25_0 x0 < 5) = Bool.false, InR IntKind.i64 (x0 + 1)]) := by kernel_rfl
theorem p12_5 (v6 : Int) (x1 : Int) (x0 : Int) : runF tab ext12 false 29 [] 2000 [] oks12 kds12 tys12 Tryd.f12.results [false] (cutAt b12 5) (E12_5 v6 x1 x0) (L12_5 v6 x1 x0) = some ([Dyn.mk (Ty.int IntKind.i64) v6, Dyn.mk (Ty.int IntKind.i64) 0], [], [Decidable.decide (x0 < x1) = Bool.false]) := by kernel_rfl
theorem snd12 : ∀ n, (∀ (x0 : Int) (x1 : Int) ds, R12 n x0 x1 ds → ∀ K q, AtV Tryd.prog 12 (PostR kds12 oks12 ds [] [] q K) 29 K q [] [.code b12] (entE 0 0 sig12 (x0, x1, ())) (entL sig12 (x0, x1, ()))) ∧ (∀ (v6 : Int) (x1 : Int) (x0 : Int) ds, R12_5 n v6 x1 x0 ds → ∀ K q, AtV Tryd.prog 12 (PostR kds12 oks12 ds [] [] q K) 29 K q [] (cutAt b12 5) (E12_5 v6 x1 x0) (L12_5 v6 x1 x0)) := by
  intro n
  induction n with
  | zero => exact ⟨fun _ _ _ h => by simp only [R12] at h, fun _ _ _ _ h => by simp only [R12_5] at h⟩
  | succ n ih =>
  obtain ⟨ih, ih5⟩ := ih
  refine ⟨?_, ?_⟩
  · intro x0 x1 ds h K q
    rw [R12] at h
    by_cases b0 : (!g16_0 x0) = true
    · rw [if_pos b0] at h
      subst h
      exact AtV.fin Tryd.func12 tabOk ext12Ok mixed (p12_0 x0 x1) ⟨trivial, b0, rfl, trivial⟩
    · rw [if_neg b0] at h
      replace b0 := Bool.eq_false_iff.2 b0
      by_cases b1 : (!g18_0 x1 x0 36525) = true
      · rw [if_pos b1] at h
        subst h
        exact AtV.fin Tryd.func12 tabOk ext12Ok mixed (p12_1 x0 x1) ⟨trivial, b0, trivial, b1, trivial⟩
      · rw [if_neg b1] at h
        replace b1 := Bool.eq_false_iff.2 b1
        exact AtV.runN tabOk ext12Ok mixed (p12_2 x0 x1) ⟨trivial, b0, trivial, b1, trivial⟩ (ih5 _ _ _ _ h K q)

  · intro v6 x1 x0 ds h K q
    rw [R12_5] at h
    by_cases b0 : (Decidable.decide (x0 < x1)) = true
    · rw [if_pos b0] at h
      obtain ⟨s0, h⟩ := h
      by_cases b1 : (Decidable.decide (g25_0 x0 < 5)) = true
      · rw [if_pos b1] at h
        obtain ⟨s1, h⟩ := h
        obtain ⟨s2, h⟩ := h
        exact AtV.runN tabOk ext12Ok mixed (p12_3 v6 x1 x0) ⟨b0, s0, b1, s1, s2, trivial⟩ (ih5 _ _ _ _ h K q)
      · rw [if_neg b1] at h
        replace b1 := Bool.eq_false_iff.2 b1
        obtain ⟨s1, h⟩ := h
        exact AtV.runN tabOk ext12Ok mixed (p12_4 v6 x1 x0) ⟨b0, s0, b1, s1, trivial⟩ (ih5 _ _ _ _ h K q)
    · rw [if_neg b0] at h
      replace b0 := Bool.eq_false_iff.2 b0
      subst h
      exact AtV.fin Tryd.func12 tabOk ext12Ok mixed (p12_5 v6 x1 x0) ⟨b0, trivial⟩



def wk12 : Nat → Int → Int
  | 0, _ => 0
  | k + 1, d => (if g25_0 d < 5 then 1 else 0) + wk12 k (d + 1)

theorem wk12_bound : ∀ (k : Nat) (d : Int), 0 ≤ wk12 k d ∧ wk12 k d ≤ k
  | 0, d => ⟨Int.le_refl _, Int.le_refl _⟩
  | k + 1, d => by
    obtain ⟨h1, h2⟩ := wk12_bound k (d + 1)
    simp only [wk12]
    split <;> omega

theorem wp12 (d : Int) (h0 : 0 ≤ d) (h1 : d ≤ 36525) : P25 d := by
  unfold P25
  simp only [i64_iff]
  have e : Int.tmod (d + 5) 7 = (d + 5) % 7 := Int.tmod_eq_emod_of_nonneg (by omega)
  repeat' (first | apply And.intro | split)
  all_goals first | trivial | omega | (simp only [e]; omega)

theorem run12 (x1 : Int) (hx : x1 ≤ 36525) : ∀ (k : Nat) (v d : Int), d + k = x1 → 0 ≤ d → 0 ≤ v → v ≤ d + 1 → R12_5 (k + 1) v x1 d [⟨.int .i64, v + wk12 k d⟩, ⟨.int .i64, 0⟩] := by
  intro k
  induction k with
  | zero =>
    intro v d hd _ _ _
    rw [R12_5, if_neg (by simp; omega)]
    simp [wk12]
  | succ k ih =>
    intro v d hd h0 hv hv2
    rw [R12_5, if_pos (by simp; omega)]
    refine ⟨wp12 d h0 (by omega), ?_⟩
    simp only [wk12]
    by_cases hc : g25_0 d < 5
    · rw [if_pos (by simpa using hc), if_pos hc]
      refine ⟨by rw [i64_iff]; omega, by rw [i64_iff]; omega, ?_⟩
      have := ih (v + 1) (d + 1) (by omega) (by omega) (by omega) (by omega)
      rw [← Int.add_assoc]
      exact this
    · rw [if_neg (by simpa using hc), if_neg hc]
      refine ⟨by rw [i64_iff]; omega, ?_⟩
      have := ih v (d + 1) (by omega) (by omega) (by omega) (by omega)
      rw [Int.zero_add]
      exact this

def P12 (x0 x1 : Int) : Prop := True
def g12_0 (x0 x1 : Int) : Int := if (!g16_0 x0) = true then 0 else if (!g18_0 x1 x0 36525) = true then 0 else wk12 (x1 - x0).toNat x0
def g12_1 (x0 x1 : Int) : Int := if (!g16_0 x0) = true then 2 else if (!g18_0 x1 x0 36525) = true then 2 else 0

theorem top12 (x0 x1 : Int) : R12 ((x1 - x0).toNat + 1 + 1) x0 x1 [⟨.int .i64, g12_0 x0 x1⟩, ⟨.int .i64, g12_1 x0 x1⟩] := by
  rw [R12]
  unfold g12_0 g12_1
  by_cases h1 : (!g16_0 x0) = true
  · simp only [if_pos h1]
  · simp only [if_neg h1]
    by_cases h2 : (!g18_0 x1 x0 36525) = true
    · simp only [if_pos h2]
    · simp only [if_neg h2]
      have hin : x0 ≤ x1 ∧ x1 ≤ 36525 := by
        unfold g18_0 at h2
        by_cases c1 : x1 ≥ x0
        · by_cases c2 : x1 ≤ 36525
          · exact ⟨c1, c2⟩
          · simp [c1, c2] at h2
        · simp [c1] at h2
      have h0 : 0 ≤ x0 := by
        unfold g16_0 g18_0 at h1
        by_cases c1 : x0 ≥ 0
        · exact c1
        · simp [c1] at h1
      have := run12 x1 hin.2 (x1 - x0).toNat 0 x0 (by omega) h0 (by omega) (by omega)
      rwa [Int.zero_add] at this

def S12 : Am.Spec := { sig := sig12, pre := fun ⟨x0, x1, _⟩ => P12 x0 x1, res := fun ⟨x0, x1, _⟩ => [⟨.int .i64, g12_0 x0 x1⟩, ⟨.int .i64, g12_1 x0 x1⟩] }
theorem con12 : Contract Tryd.prog 12 S12 := contract_of Tryd.func12 hb12 (Nat.le_of_ble_eq_true (by kernel_rfl)) (fun ⟨x0, x1, _⟩ h hwf K q =>
  (snd12 _).1 x0 x1 _ (top12 x0 x1) K q)

end Go.Proofs.YtkgacclldpicnaaDoor

/- Function 13 (laws.b10At): its runs between cut points. Written by a program of this repo (gen). -/
set_option linter.unusedVariables false
set_option linter.unusedSimpArgs false
set_option maxRecDepth 100000
namespace Go.Proofs.YtkgacclldpicnaaDoor
open Go Go.Am Go.Proofs
def ext13 : Ext := []
theorem ext13Ok : ExtOk Tryd.prog ext13 := trivial

noncomputable def b13 : Code := bodyOf Tryd.f13
theorem hb13 : Tryd.f13.body = some b13 := by kernel_rfl
def sig13 : List AT := [AT.v (Ty.sl (Ty.int IntKind.u8)), AT.v (Ty.int IntKind.i64), AT.v (Ty.int IntKind.i64)]
def tys13 : List Ty := [Ty.int IntKind.i64]
def kds13 : List RK := []
def oks13 : List AT := owns sig13
def P13 (x0 : List Int) (x1 : Int) (x2 : Int) : Prop := (if (Decidable.decide (x2 ≤ 1)) = true then True else (if (Decidable.decide (x1 < (↑(List.length x0) : Int))) = true then ((0 ≤ x1) ∧ (x1 < (↑(List.length x0) : Int)) ∧ ((InR IntKind.i64 (List.getD x0 (Int.toNat x1) 0)) ∧ ((x2 ≠ 0) ∧ (InR IntKind.i64 (Int.tmod (List.getD x0 (Int.toNat x1) 0) x2)) ∧ True))) else ((InR IntKind.i64 (x1 * 37)) ∧ ((InR IntKind.i64 (x1 * 37 + 11)) ∧ ((x2 ≠ 0) ∧ (InR IntKind.i64 (Int.tmod (x1 * 37 + 11) x2)) ∧ True)))))
def g13_0 (x0 : List Int) (x1 : Int) (x2 : Int) : Int := (if (Decidable.decide (x2 ≤ 1)) = true then 0 else (if (Decidable.decide (x1 < (↑(List.length x0) : Int))) = true then Int.tmod (List.getD x0 (Int.toNat x1) 0) x2 else Int.tmod (x1 * 37 + 11) x2))
theorem p13_0 (x0 : List Int) (x1 : Int) (x2 : Int) : runF tab ext13 false 25 [] 2000 [] oks13 kds13 tys13 Tryd.f13.results [true] [.code b13] (entE 0 0 sig13 (x0, x1, x2, ())) (entL sig13 (x0, x1, x2, ())) = some ([Dyn.mk (Ty.int IntKind.i64) 0], [], [Decidable.decide (x2 ≤ 1) = Bool.true]) := by kernel_rfl
theorem p13_1 (x0 : List Int) (x1 : Int) (x2 : Int) : runF tab ext13 false 25 [] 2000 [] oks13 kds13 tys13 Tryd.f13.results [false, true] [.code b13] (entE 0 0 sig13 (x0, x1, x2, ())) (entL sig13 (x0, x1, x2, ())) = some ([Dyn.mk (Ty.int IntKind.i64) (Int.tmod (List.getD x0 (Int.toNat x1) 0) x2)], [], [Decidable.decide (x2 ≤ 1) = Bool.false, Decidable.decide (x1 < (↑(List.length x0) : Int)) = Bool.true, 0 ≤ x1, x1 < (↑(List.length x0) : Int), InR IntKind.i64 (List.getD x0 (Int.toNat x1) 0), x2 ≠ 0, InR IntKind.i64 (Int.tmod (List.getD x0 (Int.toNat x1) 0) x2)]) := by kernel_rfl
theorem p13_2 (x0 : List Int) (x1 : Int) (x2 : Int) : runF tab ext13 false 25 [] 2000 [] oks13 kds13 tys13 Tryd.f13.results [false, false] [.code b13] (entE 0 0 sig13 (x0, x1, x2, ())) (entL sig13 (x0, x1, x2, ())) = some ([Dyn.mk (Ty.int IntKind.i64) (Int.tmod (x1 * 37 + 11) x2)], [], [Decidable.decide (x2 ≤ 1) = Bool.false, Decidable.decide (x1 < (↑(List.length x0) : Int)) = Bool.false, InR IntKind.i64 (x1 * 37), InR IntKind.i64 (x1 * 37 + 11), x2 ≠ 0, InR IntKind.i64 (Int.tmod (x1 * 37 + 11) x2)]) := by kernel_rfl
theorem at13 (x0 : List Int) (x1 : Int) (x2 : Int) (h : P13 x0 x1 x2) (K : Ctx) (q : Nat → Value) : AtV Tryd.prog 13 (PostR kds13 oks13 [⟨Ty.int IntKind.i64, g13_0 x0 x1 x2⟩] [] [] q K) 25 K q [] [.code b13] (entE 0 0 sig13 (x0, x1, x2, ())) (entL sig13 (x0, x1, x2, ())) := by
  unfold P13 at h
  unfold g13_0
  by_cases b0 : (Decidable.decide (x2 ≤ 1)) = true
  · try simp only [if_pos b0] at h ⊢
    exact AtV.fin Tryd.func13 tabOk ext13Ok mixed (p13_0 x0 x1 x2) ⟨b0, trivial⟩
  · try simp only [if_neg b0] at h ⊢
    replace b0 := Bool.eq_false_iff.2 b0
    by_cases b1 : (Decidable.decide (x1 < (↑(List.length x0) : Int))) = true
    · try simp only [if_pos b1] at h ⊢
      obtain ⟨s0, s1, h⟩ := h
      obtain ⟨s2, h⟩ := h
      obtain ⟨s3, s4, h⟩ := h
      exact AtV.fin Tryd.func13 tabOk ext13Ok mixed (p13_1 x0 x1 x2) ⟨b0, b1, s0, s1, s2, s3, s4, trivial⟩
    · try simp only [if_neg b1] at h ⊢
      replace b1 := Bool.eq_false_iff.2 b1
      obtain ⟨s0, h⟩ := h
      obtain ⟨s1, h⟩ := h
      obtain ⟨s2, s3, h⟩ := h
      exact AtV.fin Tryd.func13 tabOk ext13Ok mixed (p13_2 x0 x1 x2) ⟨b0, b1, s0, s1, s2, s3, trivial⟩

def S13 : Am.Spec := { sig := sig13, pre := fun ⟨x0, x1, x2, _⟩ => P13 x0 x1 x2, res := fun ⟨x0, x1, x2, _⟩ => [⟨Ty.int IntKind.i64, g13_0 x0 x1 x2⟩], kds := kds13 }
theorem con13 : Contract Tryd.prog 13 S13 := contract_of Tryd.func13 hb13 (Nat.le_of_ble_eq_true (by kernel_rfl)) (fun ⟨x0, x1, x2, _⟩ h _ K q => at13 x0 x1 x2 h K q)


end Go.Proofs.YtkgacclldpicnaaDoor

/- A law that says how functions of the program and of the specification hang together. -/
set_option linter.unusedVariables false
set_option linter.unusedSimpArgs false
set_option maxRecDepth 100000
namespace Go.Proofs.YtkgacclldpicnaaDoor
open Go Go.Am Go.Proofs

def Dat (y m d : Int) : Prop := (2000 ≤ y ∧ y ≤ 2099) ∧ (1 ≤ m ∧ m ≤ 12) ∧ (1 ≤ d ∧ d ≤ g19_0 y m)

def bas (y : Int) : Int := (y - 2000) * 365 + (y - 1997) / 4

theorem day_at {y m d : Int} (hy : 2000 ≤ y) : g20_0 y m d = bas y + ms20 y (m - 1).toNat + d - 1 := by
  have e : Int.tdiv (y - 1997) 4 = (y - 1997) / 4 := Int.tdiv_eq_ediv_of_nonneg (by omega)
  unfold g20_0 bs20 bas
  rw [e]; omega

theorem win {x a b : Int} : g18_0 x a b = true ↔ a ≤ x ∧ x ≤ b := by
  unfold g18_0
  by_cases c1 : x ≥ a
  · by_cases c2 : x ≤ b
    · simp [c1, c2]
    · simp [c1, c2]
  · have : ¬ a ≤ x := c1
    simp [c1, this]

theorem inum {y m d : Int} (h : Dat y m d) : g7_0 y m d = g20_0 y m d ∧ g7_1 y m d = 0 := by
  obtain ⟨h0, h1, h2⟩ := h
  unfold g7_0 g7_1
  rw [win.2 h0, win.2 h1, win.2 h2]
  exact ⟨rfl, rfl⟩

theorem idat {y m d : Int} (h : g7_1 y m d = 0) : Dat y m d := by
  unfold g7_1 at h
  cases h0 : g18_0 y 2000 2099 with
  | false => rw [h0] at h; simp at h
  | true =>
    cases h1 : g18_0 m 1 12 with
    | false => rw [h0, h1] at h; simp at h
    | true =>
      cases h2 : g18_0 d 1 (g19_0 y m) with
      | false => rw [h0, h1, h2] at h; simp at h
      | true => exact ⟨win.1 h0, win.1 h1, win.1 h2⟩

theorem ms_mono {y : Int} (hy : 2000 ≤ y ∧ y ≤ 2099) (i : Nat) : ∀ j, ms20 y i ≤ ms20 y (i + j)
  | 0 => Int.le_refl _
  | j + 1 => by
    have := ms_mono hy i j
    have := (len20 hy (m := ((i + j : Nat) : Int) + 1)).2.1
    rw [← Nat.add_assoc]
    simp only [ms20]
    omega

theorem ms_year {y : Int} (hy : 2000 ≤ y ∧ y ≤ 2099) : bas y + ms20 y 12 = bas (y + 1) := by
  have et : Int.tmod y 4 = y % 4 := Int.tmod_eq_emod_of_nonneg (by omega)
  have e : ms20 y 12 = if y % 4 = 0 then 366 else 365 := by
    by_cases hz : y % 4 = 0 <;> simp [ms20, g19_0, et, hz]
  rw [e]
  unfold bas
  split <;> omega

theorem year_back {y day : Int} (hy : 2000 ≤ y ∧ y ≤ 2099) (h1 : bas y ≤ day) (h2 : day < bas (y + 1)) : ∀ (k : Nat) (z : Int), z + k = 2099 → 2000 ≤ z → z ≤ y → yr17 day k z = y := by
  have e1 : ∀ z : Int, 2000 ≤ z → g20_0 z 1 1 = bas z := fun z hz => by
    rw [day_at hz]
    show bas z + 0 + 1 - 1 = bas z
    omega
  intro k
  induction k with
  | zero => intro z hz _ hle; show z = y; omega
  | succ k ih =>
    intro z hz h0 hle
    unfold yr17
    rw [e1 (z + 1) (by omega)]
    by_cases hlt : z < y
    · rw [if_pos (by have : bas (z + 1) ≤ bas y := by unfold bas; omega
                     omega)]
      exact ih (z + 1) (by omega) (by omega) (by omega)
    · have : z = y := by omega
      subst this
      rw [if_neg (by omega)]

theorem month_back {y m day : Int} (hy : 2000 ≤ y ∧ y ≤ 2099) (hm : 1 ≤ m ∧ m ≤ 12) (h1 : bas y + ms20 y (m - 1).toNat ≤ day) (h2 : day < bas y + ms20 y m.toNat) : ∀ (k : Nat) (z : Int), z + k = 12 → 1 ≤ z → z ≤ m → mo17 day y k z = m := by
  intro k
  induction k with
  | zero => intro z hz _ hle; show z = m; omega
  | succ k ih =>
    intro z hz h0 hle
    unfold mo17
    rw [day_at hy.1, show z + 1 - 1 = z by omega]
    by_cases hlt : z < m
    · rw [if_pos (by
        have := ms_mono hy z.toNat ((m - 1).toNat - z.toNat)
        rw [show z.toNat + ((m - 1).toNat - z.toNat) = (m - 1).toNat by omega] at this
        omega)]
      exact ih (z + 1) (by omega) (by omega) (by omega)
    · have : z = m := by omega
      subst this
      rw [if_neg (by omega)]

theorem date_back {y m d : Int} (h : Dat y m d) : (0 ≤ g20_0 y m d ∧ g20_0 y m d ≤ 36524) ∧ g17_0 (g20_0 y m d) = y ∧ g17_1 (g20_0 y m d) = m ∧ g17_2 (g20_0 y m d) = d := by
  obtain ⟨h0, h1, h2⟩ := h
  have ed := day_at (m := m) (d := d) h0.1
  have hb := msb20 h0 (m - 1).toNat
  have hms : ms20 y m.toNat = ms20 y (m - 1).toNat + g19_0 y m := by
    obtain ⟨k, hk⟩ : ∃ k : Nat, m = (k : Int) + 1 := ⟨(m - 1).toNat, by omega⟩
    subst hk
    rw [show ((k : Int) + 1).toNat = k + 1 by omega, show ((k : Int) + 1 - 1).toNat = k by omega]
    rfl
  have hy12 := ms_year h0
  have hmono := ms_mono h0 m.toNat (12 - m.toNat)
  rw [show m.toNat + (12 - m.toNat) = 12 by omega] at hmono
  have hbas : 0 ≤ bas y ∧ bas (y + 1) ≤ 36525 := by unfold bas; omega
  have a0 : g17_0 (g20_0 y m d) = y := year_back h0 (by omega) (by omega) 99 2000 (by omega) (by omega) (by omega)
  have a1 : g17_1 (g20_0 y m d) = m := by
    unfold g17_1
    rw [a0]
    exact month_back h0 h1 (by omega) (by omega) 11 1 (by omega) (by omega) (by omega)
  refine ⟨by omega, a0, a1, ?_⟩
  unfold g17_2
  rw [a0, a1, day_at (m := m) (d := 1) h0.1]
  omega

end Go.Proofs.YtkgacclldpicnaaDoor

/- A law that says how functions of the program and of the specification hang together. -/
set_option linter.unusedVariables false
set_option linter.unusedSimpArgs false
set_option maxRecDepth 100000
namespace Go.Proofs.YtkgacclldpicnaaDoor
open Go Go.Am Go.Proofs

def D10 (a : Nat) : UInt8 := UInt8.ofNat (48 + a)
theorem D10_nat {a : Nat} (h : a < 10) : (D10 a).toNat = 48 + a := by unfold D10; rw [UInt8.toNat_ofNat']; omega
theorem num_one {n : Nat} (h : n < 10) : numB (n : Int) = ⟨⟨[D10 n]⟩⟩ := by
  unfold numB Lib.itoa
  rw [if_neg (by omega), Int.toNat_natCast, Lib.decDigits_one h]
  rfl
theorem num_two {n : Nat} (h1 : 10 ≤ n) (h : n < 100) : numB (n : Int) = ⟨⟨[D10 (n / 10), D10 (n % 10)]⟩⟩ := by
  unfold numB Lib.itoa
  rw [if_neg (by omega), Int.toNat_natCast, Lib.decDigits_two (by omega) h]
  rfl

theorem pad_two {n : Nat} (h : n < 100) : P24 (n : Int) 2 ∧ g24_0 (n : Int) 2 = ⟨⟨[D10 (n / 10), D10 (n % 10)]⟩⟩ := by
  unfold P24 g24_0
  have e : g23_0 (n : Int) = numB (n : Int) := rfl
  rw [e]
  by_cases h1 : n < 10
  · rw [num_one h1]
    have e0 : n / 10 = 0 := by omega
    have e1 : n % 10 = n := by omega
    rw [e0, e1]
    have e2 : (ByteArray.mk (Array.mk [D10 n])).size = 1 := rfl
    rw [e2]
    exact ⟨⟨⟨rfl, trivial⟩, by rw [i64_iff]; decide, ⟨by decide, by decide⟩, by show 1 + 1 ≤ _; decide, trivial⟩, rfl⟩
  · rw [num_two (by omega) h]
    have e2 : (ByteArray.mk (Array.mk [D10 (n / 10), D10 (n % 10)])).size = 2 := rfl
    rw [e2]
    exact ⟨⟨⟨rfl, trivial⟩, by rw [i64_iff]; decide, ⟨by decide, by decide⟩, by show 0 + 2 ≤ _; decide, trivial⟩, rfl⟩

theorem number_two {a b : Nat} (ha : a < 10) (hb : b < 10) : g22_0 ⟨⟨[D10 a, D10 b]⟩⟩ = ((10 * a + b : Nat) : Int) := by
  unfold g22_0
  rw [if_neg (by show ¬ (2 < 1 ∨ 12 < 2); omega)]
  show num22 [D10 a, D10 b] 0 = _
  simp only [num22, D10_nat ha, D10_nat hb, decide_eq_true_eq, Bool.and_eq_true]
  rw [if_pos (by omega), if_pos (by omega)]
  omega


end Go.Proofs.YtkgacclldpicnaaDoor

/- A law that says how functions of the program and of the specification hang together. -/
set_option linter.unusedVariables false
set_option linter.unusedSimpArgs false
set_option maxRecDepth 100000
namespace Go.Proofs.YtkgacclldpicnaaDoor
open Go Go.Am Go.Proofs

def isD (b : UInt8) : Prop := 48 ≤ b.toNat ∧ b.toNat ≤ 57
def dval : List UInt8 → Nat → Nat
  | [], n => n
  | b :: r, n => dval r (10 * n + (b.toNat - 48))
theorem dval_append : ∀ (l : List UInt8) (b : UInt8) (n : Nat), dval (l ++ [b]) n = 10 * dval l n + (b.toNat - 48)
  | [], _, _ => rfl
  | c :: r, b, n => dval_append r b _
theorem dsign_nat {a : Nat} (h : a < 10) : (UInt8.ofNat (48 + a)).toNat = 48 + a := by rw [UInt8.toNat_ofNat']; omega

theorem dec_facts (n : Nat) : (∀ b ∈ Lib.decDigits n, isD b) ∧ dval (Lib.decDigits n) 0 = n ∧ 0 < (Lib.decDigits n).length ∧ (1 ≤ n → ((Lib.decDigits n).getD 0 0).toNat ≠ 48) := by
  induction n using Nat.strongRecOn with
  | _ n ih =>
    by_cases h : n < 10
    · rw [Lib.decDigits, dif_pos h]
      have e := dsign_nat h
      refine ⟨fun b hb => ?_, ?_, by simp, fun h1 => ?_⟩
      · rw [List.mem_singleton.1 hb]; unfold isD; omega
      · show 10 * 0 + ((UInt8.ofNat (48 + n)).toNat - 48) = n; omega
      · show (UInt8.ofNat (48 + n)).toNat ≠ 48; omega
    · rw [Lib.decDigits, dif_neg h]
      obtain ⟨i1, i2, i3, i4⟩ := ih (n / 10) (by omega)
      have e := dsign_nat (a := n % 10) (by omega)
      refine ⟨fun b hb => ?_, ?_, by simp, fun h1 => ?_⟩
      · rcases List.mem_append.1 hb with hb | hb
        · exact i1 b hb
        · rw [List.mem_singleton.1 hb]; unfold isD; omega
      · rw [dval_append, i2, e]; omega
      · have i4 := i4 (by omega)
        cases hd : Lib.decDigits (n / 10) with
        | nil => rw [hd] at i3; simp at i3
        | cons c r => rw [hd] at i4; exact i4

theorem dec_len : ∀ (k n : Nat), n < 10 ^ (k + 1) → (Lib.decDigits n).length ≤ k + 1
  | 0, n, h => by rw [Lib.decDigits, dif_pos (by simpa using h)]; simp
  | k + 1, n, h => by
    rw [Lib.decDigits]
    split
    · simp
    · have := dec_len k (n / 10) (by rw [Nat.pow_succ] at h; omega)
      simp; omega


end Go.Proofs.YtkgacclldpicnaaDoor

/- A law that says how functions of the program and of the specification hang together. -/
set_option linter.unusedVariables false
set_option linter.unusedSimpArgs false
set_option maxRecDepth 100000
namespace Go.Proofs.YtkgacclldpicnaaDoor
open Go Go.Am Go.Proofs

theorem number_dec {n : Nat} (h : n < 1000000000000) : g22_0 ⟨⟨Lib.decDigits n⟩⟩ = (n : Int) := by
  have key : ∀ (l : List UInt8) (m : Nat), (∀ b ∈ l, isD b) → num22 l (m : Int) = (dval l m : Nat) := by
    intro l
    induction l with
    | nil => intro m _; rfl
    | cons b r ih =>
      intro m hd
      have hb : isD b := hd b (List.mem_cons_self ..)
      unfold isD at hb
      unfold num22
      rw [if_pos (by simpa using hb)]
      have e1 : 10 * (m : Int) + ((b.toNat : Int) - 48) = ((10 * m + (b.toNat - 48) : Nat) : Int) := by omega
      rw [e1]
      exact ih _ (fun c hc => hd c (List.mem_cons_of_mem _ hc))
  obtain ⟨d1, d2, d3, _⟩ := dec_facts n
  have hl := dec_len 11 n (by omega)
  have hs : (ByteArray.mk ⟨Lib.decDigits n⟩).size = (Lib.decDigits n).length := rfl
  unfold g22_0
  rw [if_neg (by omega)]
  have := key (Lib.decDigits n) 0 d1
  rw [d2] at this
  exact this

end Go.Proofs.YtkgacclldpicnaaDoor

/- A law that says how functions of the program and of the specification hang together. -/
set_option linter.unusedVariables false
set_option linter.unusedSimpArgs false
set_option maxRecDepth 100000
namespace Go.Proofs.YtkgacclldpicnaaDoor
open Go Go.Am Go.Proofs

def y4 (y : Nat) : List UInt8 := [50, 48, D10 (y % 100 / 10), D10 (y % 10)]
def dT (y m d : Nat) : ByteArray := ⟨⟨y4 y ++ 45 :: ([D10 (m / 10), D10 (m % 10)] ++ 45 :: [D10 (d / 10), D10 (d % 10)])⟩⟩

theorem dec_y4 {y : Nat} (h : 2000 ≤ y ∧ y ≤ 2099) : Lib.decDigits y = y4 y := by
  have e1 : y / 10 / 10 = 20 := by omega
  have e2 : y / 10 % 10 = y % 100 / 10 := by omega
  rw [Lib.decDigits, dif_neg (by omega), Lib.decDigits, dif_neg (by omega), e1, e2, Lib.decDigits, dif_neg (by decide), Lib.decDigits, dif_pos (by decide)]
  rfl

theorem dec_big {y : Nat} (h : 2000 ≤ y ∧ y ≤ 2099) : g23_0 (y : Int) = ⟨⟨y4 y⟩⟩ := by
  rw [← dec_y4 h]
  show numB _ = _
  unfold numB Lib.itoa
  rw [if_neg (by omega), Int.toNat_natCast]

theorem D10_ne {a : Nat} (h : a < 10) : D10 a ≠ 45 := fun e => by
  have := congrArg UInt8.toNat e
  have e45 : (45 : UInt8).toNat = 45 := rfl
  rw [D10_nat h] at this
  omega

theorem two_free {a b : Nat} (ha : a < 10) (hb : b < 10) : (45 : UInt8) ∉ [D10 a, D10 b] := fun hm => by
  simp only [List.mem_cons, List.mem_nil_iff, or_false] at hm
  rcases hm with e | e
  · exact D10_ne ha e.symm
  · exact D10_ne hb e.symm

theorem y4_free (y : Nat) : (45 : UInt8) ∉ y4 y := fun hm => by
  unfold y4 at hm
  simp only [List.mem_cons, List.mem_nil_iff, or_false] at hm
  rcases hm with e | e | e | e
  · cases e
  · cases e
  · exact D10_ne (by omega) e.symm
  · exact D10_ne (by omega) e.symm

theorem dt_split {y m d : Nat} (hm : m < 100) (hd : d < 100) : g21_0 (dT y m d) (ByteArray.mk #[45]) = [⟨⟨y4 y⟩⟩, ⟨⟨[D10 (m / 10), D10 (m % 10)]⟩⟩, ⟨⟨[D10 (d / 10), D10 (d % 10)]⟩⟩] := by
  have e : g21_0 (dT y m d) (ByteArray.mk #[45]) = bss (splitC 45 (dT y m d).data.toList) := splitB_one 45 (dT y m d)
  rw [e]
  show bss (splitC 45 (y4 y ++ 45 :: ([D10 (m / 10), D10 (m % 10)] ++ 45 :: [D10 (d / 10), D10 (d % 10)]))) = _
  rw [splitC_hit 45 _ (y4_free y), splitC_hit 45 _ (two_free (by omega) (by omega)), splitC_free 45 (two_free (by omega) (by omega))]
  rfl

theorem date_nat {y m d : Int} (h : Dat y m d) : ∃ a b c : Nat, y = (a : Int) ∧ m = (b : Int) ∧ d = (c : Int) ∧ (2000 ≤ a ∧ a ≤ 2099) ∧ (1 ≤ b ∧ b ≤ 12) ∧ (1 ≤ c ∧ c ≤ 31) := by
  obtain ⟨h0, h1, h2⟩ := h
  have := (len20 h0 (m := m)).2.2
  exact ⟨y.toNat, m.toNat, d.toNat, by omega, by omega, by omega, by omega, by omega, by omega⟩

theorem date_text {a b c : Nat} (h : Dat (a : Int) (b : Int) (c : Int)) (ha : 2000 ≤ a ∧ a ≤ 2099) (hb : b ≤ 12) (hc : c ≤ 31) : g9_0 (g20_0 (a : Int) (b : Int) (c : Int)) = dT a b c := by
  obtain ⟨hd, e0, e1, e2⟩ := date_back h
  have hi : g16_0 (g20_0 (a : Int) (b : Int) (c : Int)) = true := win.2 hd
  unfold g9_0
  rw [hi, e0, e1, e2, dec_big ha, (pad_two (n := b) (by omega)).2, (pad_two (n := c) (by omega)).2]
  apply ByteArray.ext
  apply Array.ext'
  simp [ByteArray.data_append, dT]

theorem text_pre {y m d : Int} (h : Dat y m d) : P9 (g20_0 y m d) := by
  obtain ⟨a, b, c, rfl, rfl, rfl, ha, hb, hc⟩ := date_nat h
  obtain ⟨hd, e0, e1, e2⟩ := date_back h
  unfold P9
  rw [e0, e1, e2, dec_big ha]
  obtain ⟨p1, q1⟩ := pad_two (n := b) (by omega)
  obtain ⟨p2, q2⟩ := pad_two (n := c) (by omega)
  rw [q1, q2]
  have s4 : (ByteArray.mk ⟨y4 a⟩).size = 4 := rfl
  have s1 : (ByteArray.mk #[45]).size = 1 := rfl
  have s2 : ∀ u v : UInt8, (ByteArray.mk ⟨[u, v]⟩).size = 2 := fun _ _ => rfl
  by_cases hc : (!g16_0 (g20_0 (a : Int) (b : Int) (c : Int))) = true
  · rw [if_pos hc]; trivial
  · rw [if_neg hc]
    simp only [ByteArray.size_append, s4, s1, s2]
    exact ⟨⟨by omega, by omega⟩, ⟨rfl, trivial⟩, by omega, p1, by omega, by omega, p2, by omega, trivial⟩

theorem number_y4 {y : Nat} (h : 2000 ≤ y ∧ y ≤ 2099) : g22_0 ⟨⟨y4 y⟩⟩ = (y : Int) := by
  rw [← dec_y4 h]
  exact number_dec (by omega)

theorem date_i1 {a b c : Nat} (h : Dat (a : Int) (b : Int) (c : Int)) (ha : 2000 ≤ a ∧ a ≤ 2099) (hb : b ≤ 12) (hc : c ≤ 31) : g8_0 (dT a b c) = g20_0 (a : Int) (b : Int) (c : Int) ∧ g8_1 (dT a b c) = true := by
  have n1 := number_y4 ha
  have n2 : g22_0 ⟨⟨[D10 (b / 10), D10 (b % 10)]⟩⟩ = (b : Int) := by rw [number_two (by omega) (by omega)]; omega
  have n3 : g22_0 ⟨⟨[D10 (c / 10), D10 (c % 10)]⟩⟩ = (c : Int) := by rw [number_two (by omega) (by omega)]; omega
  obtain ⟨i0, i1⟩ := inum h
  unfold g8_0 g8_1
  rw [dt_split (by omega) (by omega)]
  have g0 : List.getD [(⟨⟨y4 a⟩⟩ : ByteArray), ⟨⟨[D10 (b / 10), D10 (b % 10)]⟩⟩, ⟨⟨[D10 (c / 10), D10 (c % 10)]⟩⟩] 0 ByteArray.empty = ⟨⟨y4 a⟩⟩ := rfl
  have g1 : List.getD [(⟨⟨y4 a⟩⟩ : ByteArray), ⟨⟨[D10 (b / 10), D10 (b % 10)]⟩⟩, ⟨⟨[D10 (c / 10), D10 (c % 10)]⟩⟩] 1 ByteArray.empty = ⟨⟨[D10 (b / 10), D10 (b % 10)]⟩⟩ := rfl
  have g2 : List.getD [(⟨⟨y4 a⟩⟩ : ByteArray), ⟨⟨[D10 (b / 10), D10 (b % 10)]⟩⟩, ⟨⟨[D10 (c / 10), D10 (c % 10)]⟩⟩] 2 ByteArray.empty = ⟨⟨[D10 (c / 10), D10 (c % 10)]⟩⟩ := rfl
  have gl : (([(⟨⟨y4 a⟩⟩ : ByteArray), ⟨⟨[D10 (b / 10), D10 (b % 10)]⟩⟩, ⟨⟨[D10 (c / 10), D10 (c % 10)]⟩⟩].length : Nat) : Int) = 3 := rfl
  simp only [g0, g1, g2, gl, n1, n2, n3, i0, i1, date_text h ha hb hc, bne_self_eq_false, beq_self_eq_true, Bool.not_true, Bool.false_eq_true, if_false, and_self]

theorem date_ip (x : ByteArray) (h : x.size ≤ 1048576) : P8 x := by
  have ifT3 : ∀ {c : Prop} [Decidable c] {Q : Prop}, (¬ c → Q) → if c then True else Q := by
    intro c _ Q h
    by_cases hc : c
    · rw [if_pos hc]; trivial
    · rw [if_neg hc]; exact h hc
  unfold P8
  refine ⟨⟨by omega, Nat.le_refl 1⟩, ifT3 fun h0 => ?_⟩
  have hl : (((g21_0 x (ByteArray.mk #[45])).length : Nat) : Int) = 3 := by simpa using h0
  generalize g22_0 (List.getD (g21_0 x (ByteArray.mk #[45])) 0 ByteArray.empty) = y
  generalize g22_0 (List.getD (g21_0 x (ByteArray.mk #[45])) 1 ByteArray.empty) = m
  generalize g22_0 (List.getD (g21_0 x (ByteArray.mk #[45])) 2 ByteArray.empty) = d
  refine ⟨by omega, by omega, by omega, ?_, ifT3 fun h1 => ?_⟩
  · unfold P7
    refine ifT3 fun a1 => ifT3 fun a2 => ?_
    have a1' := win.1 (show g18_0 y 2000 2099 = true by simpa using a1)
    have a2' := win.1 (show g18_0 m 1 12 = true by simpa using a2)
    obtain ⟨l0, l1, l2⟩ := len20 a1' (m := m)
    refine ⟨l0, ifT3 fun a3 => ?_⟩
    have a3' := win.1 (show g18_0 d 1 (g19_0 y m) = true by simpa using a3)
    exact ⟨⟨a1', a2', by omega⟩, trivial⟩
  · have hD : Dat y m d := idat (by simpa using h1)
    rw [(inum hD).1]
    exact ⟨text_pre hD, trivial⟩

end Go.Proofs.YtkgacclldpicnaaDoor

/- A law that says how functions of the program and of the specification hang together. -/
set_option linter.unusedVariables false
set_option linter.unusedSimpArgs false
set_option maxRecDepth 100000
namespace Go.Proofs.YtkgacclldpicnaaDoor
open Go Go.Am Go.Proofs

theorem bas_first : bas 2000 = 0 := by decide

theorem date_fwd {day : Int} (h : 0 ≤ day ∧ day ≤ 36524) : ∃ y m d : Int, Dat y m d ∧ g20_0 y m d = day := by
  have hy : ∀ k : Nat, day < bas (2000 + (k : Int)) → ∃ y : Int, (2000 ≤ y ∧ y < 2000 + (k : Int)) ∧ bas y ≤ day ∧ day < bas (y + 1) := by
    intro k
    induction k with
    | zero => intro hk; have : bas (2000 + ((0 : Nat) : Int)) = 0 := bas_first; omega
    | succ k ih =>
      intro hk
      by_cases hc : day < bas (2000 + (k : Int))
      · obtain ⟨y, h1, h2⟩ := ih hc
        exact ⟨y, by omega, h2⟩
      · exact ⟨2000 + (k : Int), by omega, by omega, by rw [Int.add_assoc]; simpa using hk⟩
  obtain ⟨y, hy1, hy2, hy3⟩ := hy 100 (by have : bas (2000 + ((100 : Nat) : Int)) = 36525 := by decide
                                          omega)
  have hyr : 2000 ≤ y ∧ y ≤ 2099 := by omega
  have hm : ∀ k : Nat, day < bas y + ms20 y k → ∃ j : Nat, j < k ∧ bas y + ms20 y j ≤ day ∧ day < bas y + ms20 y (j + 1) := by
    intro k
    induction k with
    | zero => intro hk; simp only [ms20] at hk; omega
    | succ k ih =>
      intro hk
      by_cases hc : day < bas y + ms20 y k
      · obtain ⟨j, h1, h2⟩ := ih hc
        exact ⟨j, by omega, h2⟩
      · exact ⟨k, by omega, by omega, hk⟩
  obtain ⟨j, hj, hj1, hj2⟩ := hm 12 (by rw [ms_year hyr]; exact hy3)
  simp only [ms20] at hj2
  refine ⟨y, (j : Int) + 1, day - (bas y + ms20 y j) + 1, ⟨hyr, by omega, by omega, by omega⟩, ?_⟩
  rw [day_at hyr.1]
  have e : ((j : Int) + 1 - 1).toNat = j := by omega
  rw [e]; omega

theorem week_at (d : Int) (h : 0 ≤ d) : g25_0 d = (d + 5) % 7 := by
  unfold g25_0
  exact Int.tmod_eq_emod_of_nonneg (by omega)

theorem wk_add : ∀ (a b : Nat) (d : Int), wk12 (a + b) d = wk12 a d + wk12 b (d + a)
  | 0, b, d => by simp [wk12]
  | a + 1, b, d => by
    have e : a + 1 + b = (a + b) + 1 := by omega
    have e2 : d + ((a + 1 : Nat) : Int) = d + 1 + (a : Int) := by omega
    rw [e]
    simp only [wk12]
    rw [wk_add a b (d + 1), e2]
    omega

theorem wk_week (d : Int) (h : 0 ≤ d) : wk12 7 d = 5 := by
  simp only [wk12]
  rw [week_at d h, week_at (d + 1) (by omega), week_at (d + 1 + 1) (by omega), week_at (d + 1 + 1 + 1) (by omega), week_at (d + 1 + 1 + 1 + 1) (by omega), week_at (d + 1 + 1 + 1 + 1 + 1) (by omega), week_at (d + 1 + 1 + 1 + 1 + 1 + 1) (by omega)]
  omega

theorem wk_low (k : Nat) : ∀ (d : Int), 0 ≤ d → 5 * (k : Int) - 12 ≤ 7 * wk12 k d := by
  induction k using Nat.strongRecOn with
  | ind k ih =>
    intro d h
    by_cases hk : k < 7
    · have h7 := wk_week d h
      have e : k + (7 - k) = 7 := by omega
      have ha := wk_add k (7 - k) d
      rw [e, h7] at ha
      have hb := (wk12_bound (7 - k) (d + k)).2
      have hc := (wk12_bound k d).1
      omega
    · have e : 7 + (k - 7) = k := by omega
      have ha := wk_add 7 (k - 7) d
      rw [e, wk_week d h] at ha
      have := ih (k - 7) (by omega) (d + ((7 : Nat) : Int)) (by omega)
      omega

end Go.Proofs.YtkgacclldpicnaaDoor

/- A law that says how functions of the program and of the specification hang together. -/
set_option linter.unusedVariables false
set_option linter.unusedSimpArgs false
set_option maxRecDepth 100000
namespace Go.Proofs.YtkgacclldpicnaaDoor
open Go Go.Am Go.Proofs

def SrcOk (n : Int) (s : List Int × Int × Int × Unit) : Prop := (∀ b ∈ s.1, 0 ≤ b ∧ b ≤ 255) ∧ 0 ≤ s.2.1 ∧ s.2.1 ≤ n

theorem SrcOk.up {n m : Int} {s : List Int × Int × Int × Unit} (h : SrcOk n s) (hm : n ≤ m) : SrcOk m s := ⟨h.1, h.2.1, Int.le_trans h.2.2 hm⟩

theorem src_start {x : List Int} (hw : Wf (.sl (.int .u8)) x) : SrcOk 0 (x, 0, 0, ()) := by
  refine ⟨fun b hb => ?_, Int.le_refl _, Int.le_refl _⟩
  have := hw.2 b hb
  exact (u8_iff b).1 this

theorem wrap_small {n : Int} (h1 : -9223372036854775808 ≤ n) (h2 : n ≤ 9223372036854775807) : IntKind.wrap .i64 n = n := wrap_of_inR ((i64_iff n).2 ⟨h1, h2⟩)

theorem u64_iff (n : Int) : InR .u64 n ↔ 0 ≤ n ∧ n ≤ 18446744073709551615 := by
  have e1 : (IntKind.u64).min = 0 := by decide
  have e2 : (IntKind.u64).max = 18446744073709551615 := by decide
  simp only [InR, e1, e2]

theorem seed_in (z : Int) : InR .u64 (Int.fdiv (IntKind.wrap .u64 z) 1099511627776) := by
  have h := (u64_iff _).1 (wrap_inR .u64 z)
  rw [u64_iff, Int.fdiv_eq_ediv_of_nonneg _ (by decide)]
  omega

theorem low_byte (z : Int) : 0 ≤ IntKind.wrap .i64 (IntKind.wrap .u64 ((BitVec.toNat (BitVec.ofInt 64 z &&& BitVec.ofInt 64 255) : Nat) : Int)) ∧ IntKind.wrap .i64 (IntKind.wrap .u64 ((BitVec.toNat (BitVec.ofInt 64 z &&& BitVec.ofInt 64 255) : Nat) : Int)) ≤ 255 := by
  have h : BitVec.toNat (BitVec.ofInt 64 z &&& BitVec.ofInt 64 255) ≤ 255 := by
    rw [BitVec.toNat_and]
    exact Nat.le_trans Nat.and_le_right (by decide)
  have e : IntKind.wrap .u64 ((BitVec.toNat (BitVec.ofInt 64 z &&& BitVec.ofInt 64 255) : Nat) : Int) = ((BitVec.toNat (BitVec.ofInt 64 z &&& BitVec.ofInt 64 255) : Nat) : Int) := wrap_of_inR ((u64_iff _).2 (by omega))
  rw [e, wrap_small (by omega) (by omega)]
  omega

theorem next_ok {n : Int} {s : List Int × Int × Int × Unit} (h : SrcOk n s) (hn : n ≤ 4611686018427387904) :
    P32 s ∧ SrcOk (n + 1) (u32_0 s) ∧ 0 ≤ g32_0 s ∧ g32_0 s ≤ 255 := by
  obtain ⟨h1, h2, h3⟩ := h
  have e : IntKind.wrap .i64 (s.2.1 + 1) = s.2.1 + 1 := wrap_small (by omega) (by omega)
  unfold P32 u32_0 g32_0 SrcOk
  by_cases hc : s.2.1 < (s.1.length : Int)
  · have hb := h1 _ (mem_getD s.1 s.2.1.toNat 0 (by omega))
    have eb : IntKind.wrap .i64 (s.1.getD s.2.1.toNat 0) = s.1.getD s.2.1.toNat 0 := wrap_small (by omega) (by omega)
    by_cases hd : s.2.1 + 1 ≤ (s.1.length : Int)
    · simp only [hc, e, hd, decide_true, if_true, eb]
      exact ⟨⟨h2, trivial, trivial⟩, ⟨h1, by omega, by omega⟩, hb⟩
    · omega
  · by_cases hd : s.2.1 + 1 ≤ (s.1.length : Int)
    · omega
    · simp only [hc, e, hd, decide_false, Bool.false_eq_true, if_false]
      exact ⟨⟨seed_in _, trivial⟩, ⟨h1, by omega, by omega⟩, low_byte _⟩

theorem tmod_in {x m : Int} (hx : 0 ≤ x) (hx2 : x ≤ 65535) (hm : 1 ≤ m) : InR .i64 (Int.tmod x m) ∧ 0 ≤ Int.tmod x m ∧ Int.tmod x m < m := by
  rw [Int.tmod_eq_emod_of_nonneg hx, i64_iff]
  have h1 := Int.emod_nonneg x (show m ≠ 0 by omega)
  have h2 := Int.emod_lt_of_pos x (show 0 < m by omega)
  have h3 : x % m ≤ x := by
    rcases Int.lt_or_le x m with h | h
    · rw [Int.emod_eq_of_lt hx h]; exact Int.le_refl _
    · omega
  exact ⟨⟨by omega, by omega⟩, h1, h2⟩

theorem pick_ok {n : Int} {s : List Int × Int × Int × Unit} (h : SrcOk n s) (m : Int) (hn : n ≤ 4611686018427387902) :
    P28 s m ∧ SrcOk (n + 2) (u28_0 s m) ∧ 0 ≤ g28_0 s m ∧ (1 ≤ m → g28_0 s m < m) ∧ (m ≤ 1 → g28_0 s m = 0) := by
  obtain ⟨p1, s1, a1, b1⟩ := next_ok h (by omega)
  obtain ⟨p2, s2, a2, b2⟩ := next_ok s1 (by omega)
  unfold P28 u28_0 g28_0
  by_cases hm : m ≤ 1
  · simp only [hm, decide_true, if_true]
    exact ⟨trivial, h.up (by omega), by omega, fun _ => by omega, by first | trivial | exact fun _ => rfl⟩
  · by_cases hb : m > 200
    · simp only [hm, hb, decide_true, decide_false, Bool.false_eq_true, if_true, if_false]
      obtain ⟨t1, t2, t3⟩ := tmod_in (x := g32_0 s * 256 + g32_0 (u32_0 s)) (m := m) (by omega) (by omega) (by omega)
      exact ⟨⟨p1, by rw [i64_iff]; omega, p2, by rw [i64_iff]; omega, by omega, t1, trivial⟩, s2.up (by omega), t2, fun _ => t3, by first | trivial | exact fun h => absurd h (by simp)⟩
    · simp only [hm, hb, decide_true, decide_false, Bool.false_eq_true, if_true, if_false]
      obtain ⟨t1, t2, t3⟩ := tmod_in (x := g32_0 s) (m := m) a1 (by omega) (by omega)
      exact ⟨⟨p1, by omega, t1, trivial⟩, s1.up (by omega), t2, fun _ => t3, by first | trivial | exact fun h => absurd h (by simp)⟩

end Go.Proofs.YtkgacclldpicnaaDoor

/- A law that says how functions of the program and of the specification hang together. -/
set_option linter.unusedVariables false
set_option linter.unusedSimpArgs false
set_option maxRecDepth 100000
namespace Go.Proofs.YtkgacclldpicnaaDoor
open Go Go.Am Go.Proofs

theorem one_ok {n : Int} {s : List Int × Int × Int × Unit} (h : SrcOk n s) (m : Int) (hn : n ≤ 4611686018427387902) :
    P27 s m ∧ SrcOk (n + 2) (u27_0 s m) := by
  obtain ⟨p, s1, _⟩ := pick_ok h m hn
  exact ⟨⟨p, trivial⟩, s1⟩

end Go.Proofs.YtkgacclldpicnaaDoor

/- A law that says how functions of the program and of the specification hang together. -/
set_option linter.unusedVariables false
set_option linter.unusedSimpArgs false
set_option maxRecDepth 100000
namespace Go.Proofs.YtkgacclldpicnaaDoor
open Go Go.Am Go.Proofs

theorem among_ok {n : Int} {s : List Int × Int × Int × Unit} (h : SrcOk n s) (l : List Int) (hl : 1 ≤ l.length) (hn : n ≤ 4611686018427387902) :
    P26 s l ∧ SrcOk (n + 2) (u26_0 s l) ∧ g26_0 s l ∈ l := by
  obtain ⟨p, s1, a, b, _⟩ := pick_ok h (l.length : Int) hn
  have b := b (by omega)
  exact ⟨⟨p, a, b, trivial⟩, s1, mem_getD l _ 0 (by omega)⟩

end Go.Proofs.YtkgacclldpicnaaDoor

/- A law that says how functions of the program and of the specification hang together. -/
set_option linter.unusedVariables false
set_option linter.unusedSimpArgs false
set_option maxRecDepth 100000
namespace Go.Proofs.YtkgacclldpicnaaDoor
open Go Go.Am Go.Proofs

theorem draw_day {n : Int} {s : List Int × Int × Int × Unit} (h : SrcOk n s) (hn : n ≤ 1000000) : P15 s ∧ SrcOk (n + 10) (u15_0 s) ∧ -1 ≤ g15_0 s ∧ g15_0 s ≤ 36525 := by
  obtain ⟨p1, s1⟩ := one_ok h 8 (by omega)
  unfold P15 u15_0 g15_0
  by_cases c : g27_0 s 8 = true
  · obtain ⟨p2, s2, a⟩ := among_ok s1 [-1, 0, 59, 60, 36524, 36525, 366, 365] (by decide) (by omega)
    simp only [if_pos c]
    refine ⟨⟨p1, p2, trivial⟩, s2.up (by omega), ?_⟩
    simp at a
    omega
  · obtain ⟨p2, s2, a, b, _⟩ := pick_ok s1 256 (by omega)
    obtain ⟨p3, s3, a3, b3, _⟩ := pick_ok s2 200 (by omega)
    have b := b (by decide)
    have b3 := b3 (by decide)
    simp only [if_neg c]
    exact ⟨⟨p1, p2, by rw [i64_iff]; omega, p3, by rw [i64_iff]; omega, trivial⟩, s3.up (by omega), by omega, by omega⟩

theorem draw_date {x : List Int} (hw : Wf (.sl (.int .u8)) x) : P5 x ∧ -1 ≤ g5_0 x ∧ g5_0 x ≤ 36525 := by
  obtain ⟨p, s, a, b⟩ := draw_day (src_start hw) (by decide)
  exact ⟨⟨p, trivial⟩, a, b⟩

theorem draw_work {x : List Int} (hw : Wf (.sl (.int .u8)) x) : P11 x ∧ -1 ≤ g11_0 x ∧ g11_0 x ≤ 36525 ∧ g11_0 x - 1 ≤ g11_1 x ∧ g11_1 x ≤ g11_0 x + 365 := by
  obtain ⟨p, s, a, b⟩ := draw_day (src_start hw) (by decide)
  obtain ⟨p2, s2, m⟩ := among_ok s [0, 1, 7, 30, 365, -1, 5] (by decide) (by decide)
  simp at m
  have key : -1 ≤ g26_0 (u15_0 (x, 0, 0, ())) [0, 1, 7, 30, 365, -1, 5] ∧ g26_0 (u15_0 (x, 0, 0, ())) [0, 1, 7, 30, 365, -1, 5] ≤ 365 := by omega
  unfold P11 g11_0 g11_1
  show (P15 (x, 0, 0, ()) ∧ P26 (u15_0 (x, 0, 0, ())) [0, 1, 7, 30, 365, -1, 5] ∧ InR .i64 (g15_0 (x, 0, 0, ()) + g26_0 (u15_0 (x, 0, 0, ())) [0, 1, 7, 30, 365, -1, 5]) ∧ True) ∧ _
  refine ⟨⟨p, p2, by rw [i64_iff]; omega, trivial⟩, a, b, ?_, ?_⟩
  · show g15_0 (x, 0, 0, ()) - 1 ≤ g15_0 (x, 0, 0, ()) + g26_0 (u15_0 (x, 0, 0, ())) [0, 1, 7, 30, 365, -1, 5]
    omega
  · show g15_0 (x, 0, 0, ()) + g26_0 (u15_0 (x, 0, 0, ())) [0, 1, 7, 30, 365, -1, 5] ≤ g15_0 (x, 0, 0, ()) + 365
    omega

end Go.Proofs.YtkgacclldpicnaaDoor

/- A law that says how functions of the program and of the specification hang together. -/
set_option linter.unusedVariables false
set_option linter.unusedSimpArgs false
set_option maxRecDepth 100000
namespace Go.Proofs.YtkgacclldpicnaaDoor
open Go Go.Am Go.Proofs

theorem day_ok {day : Int} (h : 0 ≤ day ∧ day ≤ 36524) : g16_0 day = true := win.2 h
theorem day_no {day : Int} (h : g16_0 day = true) : 0 ≤ day ∧ day ≤ 36524 := win.1 h

theorem law_day {day : Int} (h : 0 ≤ day ∧ day ≤ 36524) :
    P6 day ∧ P7 (g6_0 day) (g6_1 day) (g6_2 day) ∧ P9 day ∧ P8 (g9_0 day) ∧
    g7_1 (g6_0 day) (g6_1 day) (g6_2 day) = 0 ∧ g7_0 (g6_0 day) (g6_1 day) (g6_2 day) = day ∧
    g8_1 (g9_0 day) = true ∧ g8_0 (g9_0 day) = day := by
  have hi := day_ok h
  obtain ⟨y, m, d, hD, rfl⟩ := date_fwd h
  obtain ⟨hd, e0, e1, e2⟩ := date_back hD
  obtain ⟨a, b, c, rfl, rfl, rfl, ha, hb, hc⟩ := date_nat hD
  obtain ⟨i0, i1⟩ := inum hD
  have et := date_text hD ha (by omega) (by omega)
  obtain ⟨r0, r1⟩ := date_i1 hD ha (by omega) (by omega)
  have f0 : g6_0 (g20_0 (a : Int) (b : Int) (c : Int)) = (a : Int) := by unfold g6_0; rw [hi, e0]; rfl
  have f1 : g6_1 (g20_0 (a : Int) (b : Int) (c : Int)) = (b : Int) := by unfold g6_1; rw [hi, e1]; rfl
  have f2 : g6_2 (g20_0 (a : Int) (b : Int) (c : Int)) = (c : Int) := by unfold g6_2; rw [hi, e2]; rfl
  rw [f0, f1, f2, et]
  refine ⟨?_, ?_, text_pre hD, ?_, i1, i0, r1, r0⟩
  · unfold P6
    rw [hi]
    exact ⟨⟨hd.1, by omega⟩, trivial⟩
  · have l0 := (len20 hD.1 (m := (b : Int))).1
    unfold P7
    rw [win.2 hD.1, win.2 hD.2.1, win.2 hD.2.2]
    exact ⟨l0, ⟨hD.1, hD.2.1, by omega⟩, trivial⟩
  · refine date_ip _ ?_
    have : (dT a b c).size = 10 := rfl
    omega

theorem law_nday {day : Int} (h : ¬ (0 ≤ day ∧ day ≤ 36524)) : P6 day ∧ g6_3 day = 2 := by
  have hi : g16_0 day = false := by
    cases hc : g16_0 day with
    | false => rfl
    | true => exact absurd (day_no hc) h
  unfold P6 g6_3
  rw [hi]
  exact ⟨trivial, rfl⟩

theorem week_pre (d : Int) (h : 0 ≤ d ∧ d ≤ 36525) : P10 d := by
  unfold P10
  split
  · trivial
  · exact ⟨wp12 d h.1 h.2, trivial⟩

theorem week_of {d : Int} (h : 0 ≤ d ∧ d ≤ 36524) : g10_0 d = (d + 5) % 7 ∧ g10_1 d = 0 := by
  unfold g10_0 g10_1
  rw [day_ok h]
  exact ⟨week_at d h.1, rfl⟩

theorem week_no {d : Int} (h : g10_1 d = 0) : 0 ≤ d ∧ d ≤ 36524 := by
  unfold g10_1 at h
  cases hc : g16_0 d with
  | true => exact day_no hc
  | false => rw [hc] at h; simp at h

theorem work_ok {a b : Int} (h0 : 0 ≤ a) (h1 : a ≤ 36524) (h2 : a ≤ b) (h3 : b ≤ 36525) : g12_0 a b = wk12 (b - a).toNat a ∧ g12_1 a b = 0 := by
  unfold g12_0 g12_1
  rw [day_ok ⟨h0, h1⟩, win.2 ⟨h2, h3⟩]
  exact ⟨rfl, rfl⟩

theorem work_no {a b : Int} (h : ¬ (0 ≤ a ∧ a ≤ 36524 ∧ a ≤ b ∧ b ≤ 36525)) : g12_0 a b = 0 ∧ g12_1 a b = 2 := by
  unfold g12_0 g12_1
  cases hc : g16_0 a with
  | false => exact ⟨rfl, rfl⟩
  | true =>
    have h1 := day_no hc
    cases hd : g18_0 b a 36525 with
    | false => exact ⟨rfl, rfl⟩
    | true =>
      have := win.1 hd
      exact absurd ⟨h1.1, h1.2, this.1, this.2⟩ h

theorem at_ok {x : List Int} (hw : Wf (.sl (.int .u8)) x) (m : Int) (h : 1 ≤ m) : P13 x 0 m ∧ 0 ≤ g13_0 x 0 m ∧ g13_0 x 0 m ≤ m - 1 := by
  unfold P13 g13_0
  by_cases c1 : m ≤ 1
  · simp only [decide_eq_true c1, if_true]
    exact ⟨trivial, by omega, by omega⟩
  · simp only [decide_eq_false c1, Bool.false_eq_true, if_false]
    by_cases c2 : (0 : Int) < (x.length : Int)
    · simp only [decide_eq_true c2, if_true]
      have hb := (u8_iff _).1 (hw.2 _ (mem_getD x (Int.toNat 0) 0 (by omega)))
      obtain ⟨t1, t2, t3⟩ := tmod_in (x := x.getD (Int.toNat 0) 0) (m := m) hb.1 (by omega) (by omega)
      exact ⟨⟨by omega, c2, by rw [i64_iff]; omega, by omega, t1, trivial⟩, t2, by omega⟩
    · simp only [decide_eq_false c2, Bool.false_eq_true, if_false]
      obtain ⟨t1, t2, t3⟩ := tmod_in (x := (0 : Int) * 37 + 11) (m := m) (by omega) (by omega) (by omega)
      exact ⟨⟨by rw [i64_iff]; omega, by rw [i64_iff]; omega, by omega, t1, trivial⟩, t2, by omega⟩

end Go.Proofs.YtkgacclldpicnaaDoor

/- Function 3 (laws.FnDates): its runs between cut points. Written by a program of this repo (gen). -/
set_option linter.unusedVariables false
set_option linter.unusedSimpArgs false
set_option maxRecDepth 100000
namespace Go.Proofs.YtkgacclldpicnaaDoor
open Go Go.Am Go.Proofs
def ext3 : Ext := [(4, S4), (5, S5), (6, S6), (7, S7), (9, S9), (8, S8), (10, S10), (11, S11), (12, S12), (13, S13)]
theorem call3_4 : Callable Tryd.prog 4 := ⟨Tryd.f4, Tryd.func4, by kernel_rfl, by kernel_rfl⟩
theorem call3_5 : Callable Tryd.prog 5 := ⟨Tryd.f5, Tryd.func5, by kernel_rfl, by kernel_rfl⟩
theorem call3_6 : Callable Tryd.prog 6 := ⟨Tryd.f6, Tryd.func6, by kernel_rfl, by kernel_rfl⟩
theorem call3_7 : Callable Tryd.prog 7 := ⟨Tryd.f7, Tryd.func7, by kernel_rfl, by kernel_rfl⟩
theorem call3_9 : Callable Tryd.prog 9 := ⟨Tryd.f9, Tryd.func9, by kernel_rfl, by kernel_rfl⟩
theorem call3_8 : Callable Tryd.prog 8 := ⟨Tryd.f8, Tryd.func8, by kernel_rfl, by kernel_rfl⟩
theorem call3_10 : Callable Tryd.prog 10 := ⟨Tryd.f10, Tryd.func10, by kernel_rfl, by kernel_rfl⟩
theorem call3_11 : Callable Tryd.prog 11 := ⟨Tryd.f11, Tryd.func11, by kernel_rfl, by kernel_rfl⟩
theorem call3_12 : Callable Tryd.prog 12 := ⟨Tryd.f12, Tryd.func12, by kernel_rfl, by kernel_rfl⟩
theorem call3_13 : Callable Tryd.prog 13 := ⟨Tryd.f13, Tryd.func13, by kernel_rfl, by kernel_rfl⟩
theorem ext3Ok : ExtOk Tryd.prog ext3 := ⟨⟨call3_4, con4⟩, ⟨call3_5, con5⟩, ⟨call3_6, con6⟩, ⟨call3_7, con7⟩, ⟨call3_9, con9⟩, ⟨call3_8, con8⟩, ⟨call3_10, con10⟩, ⟨call3_11, con11⟩, ⟨call3_12, con12⟩, ⟨call3_13, con13⟩, trivial⟩

noncomputable def b3 : Code := bodyOf Tryd.f3
theorem hb3 : Tryd.f3.body = some b3 := by kernel_rfl
def sig3 : List AT := [AT.v (Ty.sl (Ty.int IntKind.u8)), AT.v (Ty.sl (Ty.int IntKind.u8))]
def tys3 : List Ty := [Ty.bool]
def kds3 : List RK := []
def oks3 : List AT := owns sig3
def E3_3 (x0 : List Int) (x1 : List Int) : Env := [(0, PV.a (Atom.sl (Ty.int IntKind.u8) x0)), (1, PV.a (Atom.sl (Ty.int IntKind.u8) x1))]
def L3_3 (x0 : List Int) (x1 : List Int) : Heap := []
def E3_12 (x0 : List Int) (x1 : List Int) : Env := [(0, PV.a (Atom.sl (Ty.int IntKind.u8) x0)), (1, PV.a (Atom.sl (Ty.int IntKind.u8) x1))]
def L3_12 (x0 : List Int) (x1 : List Int) : Heap := []
def E3_16 (x0 : List Int) (x1 : List Int) : Env := [(0, PV.a (Atom.sl (Ty.int IntKind.u8) x0)), (18, PV.a (Atom.val (Value.int IntKind.i64 (g11_0 x1)))), (19, PV.a (Atom.val (Value.int IntKind.i64 (g11_1 x1)))), (20, PV.a (Atom.val (Value.int IntKind.i64 (g12_0 (g11_0 x1) (g11_1 x1)))))]
def L3_16 (x0 : List Int) (x1 : List Int) : Heap := []
def E3_22 (v25 : Int) (v26 : Int) (x1 : List Int) (x0 : List Int) : Env := [(18, PV.a (Atom.val (Value.int IntKind.i64 (g11_0 x1)))), (19, PV.a (Atom.val (Value.int IntKind.i64 (g11_1 x1)))), (20, PV.a (Atom.val (Value.int IntKind.i64 (g12_0 (g11_0 x1) (g11_1 x1))))), (23, PV.a (Atom.val (Value.int IntKind.i64 (g12_0 (g11_0 x1) (g11_0 x1 + g13_0 x0 0 (g11_1 x1 - g11_0 x1 + 1)))))), (24, PV.a (Atom.val (Value.int IntKind.i64 (g12_1 (g11_0 x1) (g11_0 x1 + g13_0 x0 0 (g11_1 x1 - g11_0 x1 + 1)))))), (25, PV.a (Atom.val (Value.int IntKind.i64 v25))), (26, PV.a (Atom.val (Value.int IntKind.i64 v26)))]
def L3_22 (v25 : Int) (v26 : Int) (x1 : List Int) (x0 : List Int) : Heap := []
mutual
def R3 : Nat → List Int → List Int → List Dyn → Prop
  | 0, _, _, _ => False
  | n + 1, x0, x1, ds => (if (g4_0 x0) = true then (ds = [Dyn.mk Ty.bool Bool.true]) else (if (g4_0 x1) = true then (ds = [Dyn.mk Ty.bool Bool.true]) else (R3_3 n (x0) (x1) ds)))
def R3_3 : Nat → List Int → List Int → List Dyn → Prop
  | 0, _, _, _ => False
  | n + 1, x0, x1, ds => ((P5 x0) ∧ ((P6 (g5_0 x0)) ∧ (if (g6_3 (g5_0 x0) == 0) = true then ((P7 (g6_0 (g5_0 x0)) (g6_1 (g5_0 x0)) (g6_2 (g5_0 x0))) ∧ ((P9 (g5_0 x0)) ∧ ((P8 (g9_0 (g5_0 x0))) ∧ ((P10 (g5_0 x0)) ∧ ((InR IntKind.i64 (g5_0 x0 + 1)) ∧ ((P10 (g5_0 x0 + 1)) ∧ (if (g7_1 (g6_0 (g5_0 x0)) (g6_1 (g5_0 x0)) (g6_2 (g5_0 x0)) != 0) = true then (ds = [Dyn.mk Ty.bool Bool.false]) else (if (g7_0 (g6_0 (g5_0 x0)) (g6_1 (g5_0 x0)) (g6_2 (g5_0 x0)) != g5_0 x0) = true then (ds = [Dyn.mk Ty.bool Bool.false]) else (if (!g8_1 (g9_0 (g5_0 x0))) = true then (ds = [Dyn.mk Ty.bool Bool.false]) else (if (g8_0 (g9_0 (g5_0 x0)) != g5_0 x0) = true then (ds = [Dyn.mk Ty.bool Bool.false]) else (if (g10_1 (g5_0 x0) != 0) = true then (ds = [Dyn.mk Ty.bool Bool.false]) else (if (Decidable.decide (g10_0 (g5_0 x0) < 0)) = true then (ds = [Dyn.mk Ty.bool Bool.false]) else (if (Decidable.decide (g10_0 (g5_0 x0) > 6)) = true then (ds = [Dyn.mk Ty.bool Bool.false]) else (if (g10_1 (g5_0 x0 + 1) == 0) = true then ((InR IntKind.i64 (g10_0 (g5_0 x0) + 1)) ∧ ((InR IntKind.i64 (Int.tmod (g10_0 (g5_0 x0) + 1) 7)) ∧ (if (g10_0 (g5_0 x0 + 1) != Int.tmod (g10_0 (g5_0 x0) + 1) 7) = true then (ds = [Dyn.mk Ty.bool Bool.false]) else (R3_12 n (x0) (x1) ds)))) else (R3_12 n (x0) (x1) ds))))))))))))))) else (R3_12 n (x0) (x1) ds))))
def R3_12 : Nat → List Int → List Int → List Dyn → Prop
  | 0, _, _, _ => False
  | n + 1, x0, x1, ds => ((P11 x1) ∧ (if (g12_1 (g11_0 x1) (g11_1 x1) != 0) = true then (ds = [Dyn.mk Ty.bool (g12_0 (g11_0 x1) (g11_1 x1) == 0)]) else (R3_16 n (x0) (x1) ds)))
def R3_16 : Nat → List Int → List Int → List Dyn → Prop
  | 0, _, _, _ => False
  | n + 1, x0, x1, ds => ((InR IntKind.i64 (g11_1 x1 - g11_0 x1)) ∧ ((InR IntKind.i64 (g11_1 x1 - g11_0 x1 + 1)) ∧ ((P13 x0 0 (g11_1 x1 - g11_0 x1 + 1)) ∧ ((InR IntKind.i64 (g11_0 x1 + g13_0 x0 0 (g11_1 x1 - g11_0 x1 + 1))) ∧ (if (Decidable.decide (g11_0 x1 + g13_0 x0 0 (g11_1 x1 - g11_0 x1 + 1) ≤ 36524)) = true then (R3_22 n (g12_0 (g11_0 x1 + g13_0 x0 0 (g11_1 x1 - g11_0 x1 + 1)) (g11_1 x1)) (g12_1 (g11_0 x1 + g13_0 x0 0 (g11_1 x1 - g11_0 x1 + 1)) (g11_1 x1)) (x1) (x0) ds) else (R3_22 n (0) (0) (x1) (x0) ds))))))
def R3_22 : Nat → Int → Int → List Int → List Int → List Dyn → Prop
  | 0, _, _, _, _, _ => False
  | n + 1, v25, v26, x1, x0, ds => (if (g12_1 (g11_0 x1) (g11_0 x1 + g13_0 x0 0 (g11_1 x1 - g11_0 x1 + 1)) == 0) = true then (if (v26 == 0) = true then ((InR IntKind.i64 (g12_0 (g11_0 x1) (g11_0 x1 + g13_0 x0 0 (g11_1 x1 - g11_0 x1 + 1)) + v25)) ∧ (if (g12_0 (g11_0 x1) (g11_0 x1 + g13_0 x0 0 (g11_1 x1 - g11_0 x1 + 1)) + v25 == g12_0 (g11_0 x1) (g11_1 x1)) = true then (if (Decidable.decide (g12_0 (g11_0 x1) (g11_1 x1) ≥ 0)) = true then ((InR IntKind.i64 (g11_1 x1 - g11_0 x1)) ∧ (if (Decidable.decide (g12_0 (g11_0 x1) (g11_1 x1) ≤ g11_1 x1 - g11_0 x1)) = true then ((InR IntKind.i64 (7 * g12_0 (g11_0 x1) (g11_1 x1))) ∧ ((InR IntKind.i64 (g11_1 x1 - g11_0 x1)) ∧ ((InR IntKind.i64 (5 * (g11_1 x1 - g11_0 x1))) ∧ ((InR IntKind.i64 (5 * (g11_1 x1 - g11_0 x1) - 12)) ∧ (ds = [Dyn.mk Ty.bool (Decidable.decide (7 * g12_0 (g11_0 x1) (g11_1 x1) ≥ 5 * (g11_1 x1 - g11_0 x1) - 12))]))))) else (ds = [Dyn.mk Ty.bool Bool.false]))) else (ds = [Dyn.mk Ty.bool Bool.false])) else (ds = [Dyn.mk Ty.bool Bool.false]))) else (ds = [Dyn.mk Ty.bool Bool.false])) else (ds = [Dyn.mk Ty.bool Bool.false]))
end
theorem p3_0 (x0 : List Int) (x1 : List Int) : runF tab ext3 false 178 [3, 12, 16, 22] 2000 [] oks3 kds3 tys3 Tryd.f3.results [true, true] [.code b3] (entE 0 0 sig3 (x0, x1, ())) (entL sig3 (x0, x1, ())) = some ([Dyn.mk Ty.bool Bool.true], [], [True, g4_0 x0 = Bool.true, Bool.true = Bool.true]) := by kernel_rfl
theorem p3_1 (x0 : List Int) (x1 : List Int) : runF tab ext3 false 178 [3, 12, 16, 22] 2000 [] oks3 kds3 tys3 Tryd.f3.results [false, true] [.code b3] (entE 0 0 sig3 (x0, x1, ())) (entL sig3 (x0, x1, ())) = some ([Dyn.mk Ty.bool Bool.true], [], [True, g4_0 x0 = Bool.false, True, g4_0 x1 = Bool.true]) := by kernel_rfl
theorem p3_2 (x0 : List Int) (x1 : List Int) : Am.runN tab ext3 false 178 [3, 12, 16, 22] 2000 [] [] [0, 1] [] [false, false] [.code b3] (entE 0 0 sig3 (x0, x1, ())) (entL sig3 (x0, x1, ())) = some (cutAt b3 3, E3_3 (x0) (x1), L3_3 (x0) (x1), [True, g4_0 x0 = Bool.false, True, g4_0 x1 = Bool.false]) := by kernel_rfl
theorem p3_3 (x0 : List Int) (x1 : List Int) : runF tab ext3 false 178 [3, 12, 16, 22] 2000 [] oks3 kds3 tys3 Tryd.f3.results [true, true, true, true, true, true, true, true, true] (cutAt b3 3) (E3_3 x0 x1) (L3_3 x0 x1) = some ([Dyn.mk Ty.bool Bool.false], [], [P5 x0, P6 (g5_0 x0), (g6_3 (g5_0 x0) == 0) = Bool.true, P7 (g6_0 (g5_0 x0)) (g6_1 (g5_0 x0)) (g6_2 (g5_0 x0)), P9 (g5_0 x0), P8 (g9_0 (g5_0 x0)), P10 (g5_0 x0), InR IntKind.i64 (g5_0 x0 + 1), P10 (g5_0 x0 + 1), (g7_1 (g6_0 (g5_0 x0)) (g6_1 (g5_0 x0)) (g6_2 (g5_0 x0)) != 0) = Bool.true, Bool.true = Bool.true, Bool.true = Bool.true, Bool.true = Bool.true, Bool.true = Bool.true, Bool.true = Bool.true, Bool.true = Bool.true, Bool.true = Bool.true]) := by kernel_rfl
theorem p3_4 (x0 : List Int) (x1 : List Int) : runF tab ext3 false 178 [3, 12, 16, 22] 2000 [] oks3 kds3 tys3 Tryd.f3.results [true, false, true, true, true, true, true, true, true] (cutAt b3 3) (E3_3 x0 x1) (L3_3 x0 x1) = some ([Dyn.mk Ty.bool Bool.false], [], [P5 x0, P6 (g5_0 x0), (g6_3 (g5_0 x0) == 0) = Bool.true, P7 (g6_0 (g5_0 x0)) (g6_1 (g5_0 x0)) (g6_2 (g5_0 x0)), P9 (g5_0 x0), P8 (g9_0 (g5_0 x0)), P10 (g5_0 x0), InR IntKind.i64 (g5_0 x0 + 1), P10 (g5_0 x0 + 1), (g7_1 (g6_0 (g5_0 x0)) (g6_1 (g5_0 x0)) (g6_2 (g5_0 x0)) != 0) = Bool.false, (g7_0 (g6_0 (g5_0 x0)) (g6_1 (g5_0 x0)) (g6_2 (g5_0 x0)) != g5_0 x0) = Bool.true, Bool.true = Bool.true, Bool.true = Bool.true, Bool.true = Bool.true, Bool.true = Bool.true, Bool.true = Bool.true, Bool.true = Bool.true]) := by kernel_rfl
theorem p3_5 (x0 : List Int) (x1 : List Int) : runF tab ext3 false 178 [3, 12, 16, 22] 2000 [] oks3 kds3 tys3 Tryd.f3.results [true, false, false, true, true, true, true, true, true] (cutAt b3 3) (E3_3 x0 x1) (L3_3 x0 x1) = some ([Dyn.mk Ty.bool Bool.false], [], [P5 x0, P6 (g5_0 x0), (g6_3 (g5_0 x0) == 0) = Bool.true, P7 (g6_0 (g5_0 x0)) (g6_1 (g5_0 x0)) (g6_2 (g5_0 x0)), P9 (g5_0 x0), P8 (g9_0 (g5_0 x0)), P10 (g5_0 x0), InR IntKind.i64 (g5_0 x0 + 1), P10 (g5_0 x0 + 1), (g7_1 (g6_0 (g5_0 x0)) (g6_1 (g5_0 x0)) (g6_2 (g5_0 x0)) != 0) = Bool.false, (g7_0 (g6_0 (g5_0 x0)) (g6_1 (g5_0 x0)) (g6_2 (g5_0 x0)) != g5_0 x0) = Bool.false, (!g8_1 (g9_0 (g5_0 x0))) = Bool.true, Bool.true = Bool.true, Bool.true = Bool.true, Bool.true = Bool.true, Bool.true = Bool.true, Bool.true = Bool.true]) := by kernel_rfl
theorem p3_6 (x0 : List Int) (x1 : List Int) : runF tab ext3 false 178 [3, 12, 16, 22] 2000 [] oks3 kds3 tys3 Tryd.f3.results [true, false, false, false, true, true, true, true, true] (cutAt b3 3) (E3_3 x0 x1) (L3_3 x0 x1) = some ([Dyn.mk Ty.bool Bool.false], [], [P5 x0, P6 (g5_0 x0), (g6_3 (g5_0 x0) == 0) = Bool.true, P7 (g6_0 (g5_0 x0)) (g6_1 (g5_0 x0)) (g6_2 (g5_0 x0)), P9 (g5_0 x0), P8 (g9_0 (g5_0 x0)), P10 (g5_0 x0), InR IntKind.i64 (g5_0 x0 + 1), P10 (g5_0 x0 + 1), (g7_1 (g6_0 (g5_0 x0)) (g6_1 (g5_0 x0)) (g6_2 (g5_0 x0)) != 0) = Bool.false, (g7_0 (g6_0 (g5_0 x0)) (g6_1 (g5_0 x0)) (g6_2 (g5_0 x0)) != g5_0 x0) = Bool.false, (!g8_1 (g9_0 (g5_0 x0))) = Bool.false, (g8_0 (g9_0 (g5_0 x0)) != g5_0 x0) = Bool.true, Bool.true = Bool.true, Bool.true = Bool.true, Bool.true = Bool.true, Bool.true = Bool.true]) := by kernel_rfl
theorem p3_7 (x0 : List Int) (x1 : List Int) : runF tab ext3 false 178 [3, 12, 16, 22] 2000 [] oks3 kds3 tys3 Tryd.f3.results [true, false, false, false, false, true, true, true, true] (cutAt b3 3) (E3_3 x0 x1) (L3_3 x0 x1) = some ([Dyn.mk Ty.bool Bool.false], [], [P5 x0, P6 (g5_0 x0), (g6_3 (g5_0 x0) == 0) = Bool.true, P7 (g6_0 (g5_0 x0)) (g6_1 (g5_0 x0)) (g6_2 (g5_0 x0)), P9 (g5_0 x0), P8 (g9_0 (g5_0 x0)), P10 (g5_0 x0), InR IntKind.i64 (g5_0 x0 + 1), P10 (g5_0 x0 + 1), (g7_1 (g6_0 (g5_0 x0)) (g6_1 (g5_0 x0)) (g6_2 (g5_0 x0)) != 0) = Bool.false, (g7_0 (g6_0 (g5_0 x0)) (g6_1 (g5_0 x0)) (g6_2 (g5_0 x0)) != g5_0 x0) = Bool.false, (!g8_1 (g9_0 (g5_0 x0))) = Bool.false, (g8_0 (g9_0 (g5_0 x0)) != g5_0 x0) = Bool.false, (g10_1 (g5_0 x0) != 0) = Bool.true, Bool.true = Bool.true, Bool.true = Bool.true, Bool.true = Bool.true]) := by kernel_rfl
theorem p3_8 (x0 : List Int) (x1 : List Int) : runF tab ext3 false 178 [3, 12, 16, 22] 2000 [] oks3 kds3 tys3 Tryd.f3.results [true, false, false, false, false, false, true, true, true] (cutAt b3 3) (E3_3 x0 x1) (L3_3 x0 x1) = some ([Dyn.mk Ty.bool Bool.false], [], [P5 x0, P6 (g5_0 x0), (g6_3 (g5_0 x0) == 0) = Bool.true, P7 (g6_0 (g5_0 x0)) (g6_1 (g5_0 x0)) (g6_2 (g5_0 x0)), P9 (g5_0 x0), P8 (g9_0 (g5_0 x0)), P10 (g5_0 x0), InR IntKind.i64 (g5_0 x0 + 1), P10 (g5_0 x0 + 1), (g7_1 (g6_0 (g5_0 x0)) (g6_1 (g5_0 x0)) (g6_2 (g5_0 x0)) != 0) = Bool.false, (g7_0 (g6_0 (g5_0 x0)) (g6_1 (g5_0 x0)) (g6_2 (g5_0 x0)) != g5_0 x0) = Bool.false, (!g8_1 (g9_0 (g5_0 x0))) = Bool.false, (g8_0 (g9_0 (g5_0 x0)) != g5_0 x0) = Bool.false, (g10_1 (g5_0 x0) != 0) = Bool.false, Decidable.decide (g10_0 (g5_0 x0) < 0) = Bool.true, Bool.true = Bool.true, Bool.true = Bool.true]) := by kernel_rfl
theorem p3_9 (x0 : List Int) (x1 : List Int) : runF tab ext3 false 178 [3, 12, 16, 22] 2000 [] oks3 kds3 tys3 Tryd.f3.results [true, false, false, false, false, false, false, true, true] (cutAt b3 3) (E3_3 x0 x1) (L3_3 x0 x1) = some ([Dyn.mk Ty.bool Bool.false], [], [P5 x0, P6 (g5_0 x0), (g6_3 (g5_0 x0) == 0) = Bool.true, P7 (g6_0 (g5_0 x0)) (g6_1 (g5_0 x0)) (g6_2 (g5_0 x0)), P9 (g5_0 x0), P8 (g9_0 (g5_0 x0)), P10 (g5_0 x0), InR IntKind.i64 (g5_0 x0 + 1), P10 (g5_0 x0 + 1), (g7_1 (g6_0 (g5_0 x0)) (g6_1 (g5_0 x0)) (g6_2 (g5_0 x0)) != 0) = Bool.false, (g7_0 (g6_0 (g5_0 x0)) (g6_1 (g5_0 x0)) (g6_2 (g5_0 x0)) != g5_0 x0) = Bool.false, (!g8_1 (g9_0 (g5_0 x0))) = Bool.false, (g8_0 (g9_0 (g5_0 x0)) != g5_0 x0) = Bool.false, (g10_1 (g5_0 x0) != 0) = Bool.false, Decidable.decide (g10_0 (g5_0 x0) < 0) = Bool.false, Decidable.decide (g10_0 (g5_0 x0) > 6) = Bool.true, Bool.true = Bool.true]) := by kernel_rfl
theorem p3_10 (x0 : List Int) (x1 : List Int) : runF tab ext3 false 178 [3, 12, 16, 22] 2000 [] oks3 kds3 tys3 Tryd.f3.results [true, false, false, false, false, false, false, false, true, true] (cutAt b3 3) (E3_3 x0 x1) (L3_3 x0 x1) = some ([Dyn.mk Ty.bool Bool.false], [], [P5 x0, P6 (g5_0 x0), (g6_3 (g5_0 x0) == 0) = Bool.true, P7 (g6_0 (g5_0 x0)) (g6_1 (g5_0 x0)) (g6_2 (g5_0 x0)), P9 (g5_0 x0), P8 (g9_0 (g5_0 x0)), P10 (g5_0 x0), InR IntKind.i64 (g5_0 x0 + 1), P10 (g5_0 x0 + 1), (g7_1 (g6_0 (g5_0 x0)) (g6_1 (g5_0 x0)) (g6_2 (g5_0 x0)) != 0) = Bool.false, (g7_0 (g6_0 (g5_0 x0)) (g6_1 (g5_0 x0)) (g6_2 (g5_0 x0)) != g5_0 x0) = Bool.false, (!g8_1 (g9_0 (g5_0 x0))) = Bool.false, (g8_0 (g9_0 (g5_0 x0)) != g5_0 x0) = Bool.false, (g10_1 (g5_0 x0) != 0) = Bool.false, Decidable.decide (g10_0 (g5_0 x0) < 0) = Bool.false, Decidable.decide (g10_0 (g5_0 x0) > 6) = Bool.false, (g10_1 (g5_0 x0 + 1) == 0) = Bool.true, InR IntKind.i64 (g10_0 (g5_0 x0) + 1), (7 : Int) ≠ (0 : Int), InR IntKind.i64 (Int.tmod (g10_0 (g5_0 x0) + 1) 7), (g10_0 (g5_0 x0 + 1) != Int.tmod (g10_0 (g5_0 x0) + 1) 7) = Bool.true]) := by kernel_rfl
theorem p3_11 (x0 : List Int) (x1 : List Int) : Am.runN tab ext3 false 178 [3, 12, 16, 22] 2000 [] [] [0, 1] [] [true, false, false, false, false, false, false, false, true, false] (cutAt b3 3) (E3_3 x0 x1) (L3_3 x0 x1) = some (cutAt b3 12, E3_12 (x0) (x1), L3_12 (x0) (x1), [P5 x0, P6 (g5_0 x0), (g6_3 (g5_0 x0) == 0) = Bool.true, P7 (g6_0 (g5_0 x0)) (g6_1 (g5_0 x0)) (g6_2 (g5_0 x0)), P9 (g5_0 x0), P8 (g9_0 (g5_0 x0)), P10 (g5_0 x0), InR IntKind.i64 (g5_0 x0 + 1), P10 (g5_0 x0 + 1), (g7_1 (g6_0 (g5_0 x0)) (g6_1 (g5_0 x0)) (g6_2 (g5_0 x0)) != 0) = Bool.false, (g7_0 (g6_0 (g5_0 x0)) (g6_1 (g5_0 x0)) (g6_2 (g5_0 x0)) != g5_0 x0) = Bool.false, (!g8_1 (g9_0 (g5_0 x0))) = Bool.false, (g8_0 (g9_0 (g5_0 x0)) != g5_0 x0) = Bool.false, (g10_1 (g5_0 x0) != 0) = Bool.false, Decidable.decide (g10_0 (g5_0 x0) < 0) = Bool.false, Decidable.decide (g10_0 (g5_0 x0) > 6) = Bool.false, (g10_1 (g5_0 x0 + 1) == 0) = Bool.true, InR IntKind.i64 (g10_0 (g5_0 x0) + 1), (7 : Int) ≠ (0 : Int), InR IntKind.i64 (Int.tmod (g10_0 (g5_0 x0) + 1) 7), (g10_0 (g5_0 x0 + 1) != Int.tmod (g10_0 (g5_0 x0) + 1) 7) = Bool.false]) := by kernel_rfl
theorem p3_12 (x0 : List Int) (x1 : List Int) : Am.runN tab ext3 false 178 [3, 12, 16, 22] 2000 [] [] [0, 1] [] [true, false, false, false, false, false, false, false, false, false] (cutAt b3 3) (E3_3 x0 x1) (L3_3 x0 x1) = some (cutAt b3 12, E3_12 (x0) (x1), L3_12 (x0) (x1), [P5 x0, P6 (g5_0 x0), (g6_3 (g5_0 x0) == 0) = Bool.true, P7 (g6_0 (g5_0 x0)) (g6_1 (g5_0 x0)) (g6_2 (g5_0 x0)), P9 (g5_0 x0), P8 (g9_0 (g5_0 x0)), P10 (g5_0 x0), InR IntKind.i64 (g5_0 x0 + 1), P10 (g5_0 x0 + 1), (g7_1 (g6_0 (g5_0 x0)) (g6_1 (g5_0 x0)) (g6_2 (g5_0 x0)) != 0) = Bool.false, (g7_0 (g6_0 (g5_0 x0)) (g6_1 (g5_0 x0)) (g6_2 (g5_0 x0)) != g5_0 x0) = Bool.false, (!g8_1 (g9_0 (g5_0 x0))) = Bool.false, (g8_0 (g9_0 (g5_0 x0)) != g5_0 x0) = Bool.false, (g10_1 (g5_0 x0) != 0) = Bool.false, Decidable.decide (g10_0 (g5_0 x0) < 0) = Bool.false, Decidable.decide (g10_0 (g5_0 x0) > 6) = Bool.false, (g10_1 (g5_0 x0 + 1) == 0) = Bool.false, Bool.false = Bool.false]) := by kernel_rfl
theorem p3_13 (x0 : List Int) (x1 : List Int) : Am.runN tab ext3 false 178 [3, 12, 16, 22] 2000 [] [] [0, 1] [] [false] (cutAt b3 3) (E3_3 x0 x1) (L3_3 x0 x1) = some (cutAt b3 12, E3_12 (x0) (x1), L3_12 (x0) (x1), [P5 x0, P6 (g5_0 x0), (g6_3 (g5_0 x0) == 0) = Bool.false]) := by kernel_rfl
theorem p3_14 (x0 : List Int) (x1 : List Int) : runF tab ext3 false 178 [3, 12, 16, 22] 2000 [] oks3 kds3 tys3 Tryd.f3.results [true] (cutAt b3 12) (E3_12 x0 x1) (L3_12 x0 x1) = some ([Dyn.mk Ty.bool (g12_0 (g11_0 x1) (g11_1 x1) == 0)], [], [P11 x1, True, (g12_1 (g11_0 x1) (g11_1 x1) != 0) = Bool.true]) := by kernel_rfl
theorem p3_15 (x0 : List Int) (x1 : List Int) : Am.runN tab ext3 false 178 [3, 12, 16, 22] 2000 [] [] [0, 18, 19, 20] [] [false] (cutAt b3 12) (E3_12 x0 x1) (L3_12 x0 x1) = some (cutAt b3 16, E3_16 (x0) (x1), L3_16 (x0) (x1), [P11 x1, True, (g12_1 (g11_0 x1) (g11_1 x1) != 0) = Bool.false]) := by kernel_rfl
theorem p3_16 (x0 : List Int) (x1 : List Int) : Am.runN tab ext3 false 178 [3, 12, 16, 22] 2000 [] [] [18, 19, 20, 23, 24, 25, 26] [] [true] (cutAt b3 16) (E3_16 x0 x1) (L3_16 x0 x1) = some (cutAt b3 22, E3_22 (g12_0 (g11_0 x1 + g13_0 x0 0 (g11_1 x1 - g11_0 x1 + 1)) (g11_1 x1)) (g12_1 (g11_0 x1 + g13_0 x0 0 (g11_1 x1 - g11_0 x1 + 1)) (g11_1 x1)) (x1) (x0), L3_22 (g12_0 (g11_0 x1 + g13_0 x0 0 (g11_1 x1 - g11_0 x1 + 1)) (g11_1 x1)) (g12_1 (g11_0 x1 + g13_0 x0 0 (g11_1 x1 - g11_0 x1 + 1)) (g11_1 x1)) (x1) (x0), [InR IntKind.i64 (g11_1 x1 - g11_0 x1), InR IntKind.i64 (g11_1 x1 - g11_0 x1 + 1), P13 x0 0 (g11_1 x1 - g11_0 x1 + 1), InR IntKind.i64 (g11_0 x1 + g13_0 x0 0 (g11_1 x1 - g11_0 x1 + 1)), True, Decidable.decide (g11_0 x1 + g13_0 x0 0 (g11_1 x1 - g11_0 x1 + 1) ≤ 36524) = Bool.true, True]) := by kernel_rfl
theorem p3_17 (x0 : List Int) (x1 : List Int) : Am.runN tab ext3 false 178 [3, 12, 16, 22] 2000 [] [] [18, 19, 20, 23, 24, 25, 26] [] [false] (cutAt b3 16) (E3_16 x0 x1) (L3_16 x0 x1) = some (cutAt b3 22, E3_22 (0) (0) (x1) (x0), L3_22 (0) (0) (x1) (x0), [InR IntKind.i64 (g11_1 x1 - g11_0 x1), InR IntKind.i64 (g11_1 x1 - g11_0 x1 + 1), P13 x0 0 (g11_1 x1 - g11_0 x1 + 1), InR IntKind.i64 (g11_0 x1 + g13_0 x0 0 (g11_1 x1 - g11_0 x1 + 1)), True, Decidable.decide (g11_0 x1 + g13_0 x0 0 (g11_1 x1 - g11_0 x1 + 1) ≤ 36524) = Bool.false]) := by kernel_rfl
theorem p3_18 (v25 : Int) (v26 : Int) (x1 : List Int) (x0 : List Int) : runF tab ext3 false 178 [3, 12, 16, 22] 2000 [] oks3 kds3 tys3 Tryd.f3.results [true, true, true, true, true] (cutAt b3 22) (E3_22 v25 v26 x1 x0) (L3_22 v25 v26 x1 x0) = some ([Dyn.mk Ty.bool (Decidable.decide (7 * g12_0 (g11_0 x1) (g11_1 x1) ≥ 5 * (g11_1 x1 - g11_0 x1) - 12))], [], [(g12_1 (g11_0 x1) (g11_0 x1 + g13_0 x0 0 (g11_1 x1 - g11_0 x1 + 1)) == 0) = Bool.true, (v26 == 0) = Bool.true, InR IntKind.i64 (g12_0 (g11_0 x1) (g11_0 x1 + g13_0 x0 0 (g11_1 x1 - g11_0 x1 + 1)) + v25), (g12_0 (g11_0 x1) (g11_0 x1 + g13_0 x0 0 (g11_1 x1 - g11_0 x1 + 1)) + v25 == g12_0 (g11_0 x1) (g11_1 x1)) = Bool.true, Decidable.decide (g12_0 (g11_0 x1) (g11_1 x1) ≥ 0) = Bool.true, InR IntKind.i64 (g11_1 x1 - g11_0 x1), Decidable.decide (g12_0 (g11_0 x1) (g11_1 x1) ≤ g11_1 x1 - g11_0 x1) = Bool.true, InR IntKind.i64 (7 * g12_0 (g11_0 x1) (g11_1 x1)), InR IntKind.i64 (g11_1 x1 - g11_0 x1), InR IntKind.i64 (5 * (g11_1 x1 - g11_0 x1)), InR IntKind.i64 (5 * (g11_1 x1 - g11_0 x1) - 12)]) := by kernel_rfl
theorem p3_19 (v25 : Int) (v26 : Int) (x1 : List Int) (x0 : List Int) : runF tab ext3 false 178 [3, 12, 16, 22] 2000 [] oks3 kds3 tys3 Tryd.f3.results [true, true, true, true, false] (cutAt b3 22) (E3_22 v25 v26 x1 x0) (L3_22 v25 v26 x1 x0) = some ([Dyn.mk Ty.bool Bool.false], [], [(g12_1 (g11_0 x1) (g11_0 x1 + g13_0 x0 0 (g11_1 x1 - g11_0 x1 + 1)) == 0) = Bool.true, (v26 == 0) = Bool.true, InR IntKind.i64 (g12_0 (g11_0 x1) (g11_0 x1 + g13_0 x0 0 (g11_1 x1 - g11_0 x1 + 1)) + v25), (g12_0 (g11_0 x1) (g11_0 x1 + g13_0 x0 0 (g11_1 x1 - g11_0 x1 + 1)) + v25 == g12_0 (g11_0 x1) (g11_1 x1)) = Bool.true, Decidable.decide (g12_0 (g11_0 x1) (g11_1 x1) ≥ 0) = Bool.true, InR IntKind.i64 (g11_1 x1 - g11_0 x1), Decidable.decide (g12_0 (g11_0 x1) (g11_1 x1) ≤ g11_1 x1 - g11_0 x1) = Bool.false]) := by kernel_rfl
theorem p3_20 (v25 : Int) (v26 : Int) (x1 : List Int) (x0 : List Int) : runF tab ext3 false 178 [3, 12, 16, 22] 2000 [] oks3 kds3 tys3 Tryd.f3.results [true, true, true, false, false] (cutAt b3 22) (E3_22 v25 v26 x1 x0) (L3_22 v25 v26 x1 x0) = some ([Dyn.mk Ty.bool Bool.false], [], [(g12_1 (g11_0 x1) (g11_0 x1 + g13_0 x0 0 (g11_1 x1 - g11_0 x1 + 1)) == 0) = Bool.true, (v26 == 0) = Bool.true, InR IntKind.i64 (g12_0 (g11_0 x1) (g11_0 x1 + g13_0 x0 0 (g11_1 x1 - g11_0 x1 + 1)) + v25), (g12_0 (g11_0 x1) (g11_0 x1 + g13_0 x0 0 (g11_1 x1 - g11_0 x1 + 1)) + v25 == g12_0 (g11_0 x1) (g11_1 x1)) = Bool.true, Decidable.decide (g12_0 (g11_0 x1) (g11_1 x1) ≥ 0) = Bool.false, Bool.false = Bool.false]) := by kernel_rfl
theorem p3_21 (v25 : Int) (v26 : Int) (x1 : List Int) (x0 : List Int) : runF tab ext3 false 178 [3, 12, 16, 22] 2000 [] oks3 kds3 tys3 Tryd.f3.results [true, true, false, false, false] (cutAt b3 22) (E3_22 v25 v26 x1 x0) (L3_22 v25 v26 x1 x0) = some ([Dyn.mk Ty.bool Bool.false], [], [(g12_1 (g11_0 x1) (g11_0 x1 + g13_0 x0 0 (g11_1 x1 - g11_0 x1 + 1)) == 0) = Bool.true, (v26 == 0) = Bool.true, InR IntKind.i64 (g12_0 (g11_0 x1) (g11_0 x1 + g13_0 x0 0 (g11_1 x1 - g11_0 x1 + 1)) + v25), (g12_0 (g11_0 x1) (g11_0 x1 + g13_0 x0 0 (g11_1 x1 - g11_0 x1 + 1)) + v25 == g12_0 (g11_0 x1) (g11_1 x1)) = Bool.false, Bool.false = Bool.false, Bool.false = Bool.false]) := by kernel_rfl
theorem p3_22 (v25 : Int) (v26 : Int) (x1 : List Int) (x0 : List Int) : runF tab ext3 false 178 [3, 12, 16, 22] 2000 [] oks3 kds3 tys3 Tryd.f3.results [true, false, false, false, false] (cutAt b3 22) (E3_22 v25 v26 x1 x0) (L3_22 v25 v26 x1 x0) = some ([Dyn.mk Ty.bool Bool.false], [], [(g12_1 (g11_0 x1) (g11_0 x1 + g13_0 x0 0 (g11_1 x1 - g11_0 x1 + 1)) == 0) = Bool.true, (v26 == 0) = Bool.false, Bool.false = Bool.false, Bool.false = Bool.false, Bool.false = Bool.false]) := by kernel_rfl
theorem p3_23 (v25 : Int) (v26 : Int) (x1 : List Int) (x0 : List Int) : runF tab ext3 false 178 [3, 12, 16, 22] 2000 [] oks3 kds3 tys3 Tryd.f3.results [false, false, false, false, false] (cutAt b3 22) (E3_22 v25 v26 x1 x0) (L3_22 v25 v26 x1 x0) = some ([Dyn.mk Ty.bool Bool.false], [], [(g12_1 (g11_0 x1) (g11_0 x1 + g13_0 x0 0 (g11_1 x1 - g11_0 x1 + 1)) == 0) = Bool.false, Bool.false = Bool.false, Bool.false = Bool.false, Bool.false = Bool.false, Bool.false = Bool.false]) := by kernel_rfl
theorem snd3 : ∀ n, (∀ (x0 : List Int) (x1 : List Int) ds, R3 n x0 x1 ds → ∀ K q, AtV Tryd.prog 3 (PostR kds3 oks3 ds [] [] q K) 178 K q [] [.code b3] (entE 0 0 sig3 (x0, x1, ())) (entL sig3 (x0, x1, ()))) ∧ (∀ (x0 : List Int) (x1 : List Int) ds, R3_3 n x0 x1 ds → ∀ K q, AtV Tryd.prog 3 (PostR kds3 oks3 ds [] [] q K) 178 K q [] (cutAt b3 3) (E3_3 x0 x1) (L3_3 x0 x1)) ∧ (∀ (x0 : List Int) (x1 : List Int) ds, R3_12 n x0 x1 ds → ∀ K q, AtV Tryd.prog 3 (PostR kds3 oks3 ds [] [] q K) 178 K q [] (cutAt b3 12) (E3_12 x0 x1) (L3_12 x0 x1)) ∧ (∀ (x0 : List Int) (x1 : List Int) ds, R3_16 n x0 x1 ds → ∀ K q, AtV Tryd.prog 3 (PostR kds3 oks3 ds [] [] q K) 178 K q [] (cutAt b3 16) (E3_16 x0 x1) (L3_16 x0 x1)) ∧ (∀ (v25 : Int) (v26 : Int) (x1 : List Int) (x0 : List Int) ds, R3_22 n v25 v26 x1 x0 ds → ∀ K q, AtV Tryd.prog 3 (PostR kds3 oks3 ds [] [] q K) 178 K q [] (cutAt b3 22) (E3_22 v25 v26 x1 x0) (L3_22 v25 v26 x1 x0)) := by
  intro n
  induction n with
  | zero => exact ⟨fun _ _ _ h => by simp only [R3] at h, fun _ _ _ h => by simp only [R3_3] at h, fun _ _ _ h => by simp only [R3_12] at h, fun _ _ _ h => by simp only [R3_16] at h, fun _ _ _ _ _ h => by simp only [R3_22] at h⟩
  | succ n ih =>
  obtain ⟨ih, ih3, ih12, ih16, ih22⟩ := ih
  refine ⟨?_, ?_, ?_, ?_, ?_⟩
  · intro x0 x1 ds h K q
    rw [R3] at h
    by_cases b0 : (g4_0 x0) = true
    · rw [if_pos b0] at h
      subst h
      exact AtV.fin Tryd.func3 tabOk ext3Ok mixed (p3_0 x0 x1) ⟨trivial, b0, rfl, trivial⟩
    · rw [if_neg b0] at h
      replace b0 := Bool.eq_false_iff.2 b0
      by_cases b1 : (g4_0 x1) = true
      · rw [if_pos b1] at h
        subst h
        exact AtV.fin Tryd.func3 tabOk ext3Ok mixed (p3_1 x0 x1) ⟨trivial, b0, trivial, b1, trivial⟩
      · rw [if_neg b1] at h
        replace b1 := Bool.eq_false_iff.2 b1
        exact AtV.runN tabOk ext3Ok mixed (p3_2 x0 x1) ⟨trivial, b0, trivial, b1, trivial⟩ (ih3 _ _ _ h K q)

  · intro x0 x1 ds h K q
    rw [R3_3] at h
    obtain ⟨s0, h⟩ := h
    obtain ⟨s1, h⟩ := h
    by_cases b0 : (g6_3 (g5_0 x0) == 0) = true
    · rw [if_pos b0] at h
      obtain ⟨s2, h⟩ := h
      obtain ⟨s3, h⟩ := h
      obtain ⟨s4, h⟩ := h
      obtain ⟨s5, h⟩ := h
      obtain ⟨s6, h⟩ := h
      obtain ⟨s7, h⟩ := h
      by_cases b1 : (g7_1 (g6_0 (g5_0 x0)) (g6_1 (g5_0 x0)) (g6_2 (g5_0 x0)) != 0) = true
      · rw [if_pos b1] at h
        subst h
        exact AtV.fin Tryd.func3 tabOk ext3Ok mixed (p3_3 x0 x1) ⟨s0, s1, b0, s2, s3, s4, s5, s6, s7, b1, rfl, rfl, rfl, rfl, rfl, rfl, rfl, trivial⟩
      · rw [if_neg b1] at h
        replace b1 := Bool.eq_false_iff.2 b1
        by_cases b2 : (g7_0 (g6_0 (g5_0 x0)) (g6_1 (g5_0 x0)) (g6_2 (g5_0 x0)) != g5_0 x0) = true
        · rw [if_pos b2] at h
          subst h
          exact AtV.fin Tryd.func3 tabOk ext3Ok mixed (p3_4 x0 x1) ⟨s0, s1, b0, s2, s3, s4, s5, s6, s7, b1, b2, rfl, rfl, rfl, rfl, rfl, rfl, trivial⟩
        · rw [if_neg b2] at h
          replace b2 := Bool.eq_false_iff.2 b2
          by_cases b3 : (!g8_1 (g9_0 (g5_0 x0))) = true
          · rw [if_pos b3] at h
            subst h
            exact AtV.fin Tryd.func3 tabOk ext3Ok mixed (p3_5 x0 x1) ⟨s0, s1, b0, s2, s3, s4, s5, s6, s7, b1, b2, b3, rfl, rfl, rfl, rfl, rfl, trivial⟩
          · rw [if_neg b3] at h
            replace b3 := Bool.eq_false_iff.2 b3
            by_cases b4 : (g8_0 (g9_0 (g5_0 x0)) != g5_0 x0) = true
            · rw [if_pos b4] at h
              subst h
              exact AtV.fin Tryd.func3 tabOk ext3Ok mixed (p3_6 x0 x1) ⟨s0, s1, b0, s2, s3, s4, s5, s6, s7, b1, b2, b3, b4, rfl, rfl, rfl, rfl, trivial⟩
            · rw [if_neg b4] at h
              replace b4 := Bool.eq_false_iff.2 b4
              by_cases b5 : (g10_1 (g5_0 x0) != 0) = true
              · rw [if_pos b5] at h
                subst h
                exact AtV.fin Tryd.func3 tabOk ext3Ok mixed (p3_7 x0 x1) ⟨s0, s1, b0, s2, s3, s4, s5, s6, s7, b1, b2, b3, b4, b5, rfl, rfl, rfl, trivial⟩
              · rw [if_neg b5] at h
                replace b5 := Bool.eq_false_iff.2 b5
                by_cases b6 : (Decidable.decide (g10_0 (g5_0 x0) < 0)) = true
                · rw [if_pos b6] at h
                  subst h
                  exact AtV.fin Tryd.func3 tabOk ext3Ok mixed (p3_8 x0 x1) ⟨s0, s1, b0, s2, s3, s4, s5, s6, s7, b1, b2, b3, b4, b5, b6, rfl, rfl, trivial⟩
                · rw [if_neg b6] at h
                  replace b6 := Bool.eq_false_iff.2 b6
                  by_cases b7 : (Decidable.decide (g10_0 (g5_0 x0) > 6)) = true
                  · rw [if_pos b7] at h
                    subst h
                    exact AtV.fin Tryd.func3 tabOk ext3Ok mixed (p3_9 x0 x1) ⟨s0, s1, b0, s2, s3, s4, s5, s6, s7, b1, b2, b3, b4, b5, b6, b7, rfl, trivial⟩
                  · rw [if_neg b7] at h
                    replace b7 := Bool.eq_false_iff.2 b7
                    by_cases b8 : (g10_1 (g5_0 x0 + 1) == 0) = true
                    · rw [if_pos b8] at h
                      obtain ⟨s8, h⟩ := h
                      obtain ⟨s9, h⟩ := h
                      by_cases b9 : (g10_0 (g5_0 x0 + 1) != Int.tmod (g10_0 (g5_0 x0) + 1) 7) = true
                      · rw [if_pos b9] at h
                        subst h
                        exact AtV.fin Tryd.func3 tabOk ext3Ok mixed (p3_10 x0 x1) ⟨s0, s1, b0, s2, s3, s4, s5, s6, s7, b1, b2, b3, b4, b5, b6, b7, b8, s8, (by decide), s9, b9, trivial⟩
                      · rw [if_neg b9] at h
                        replace b9 := Bool.eq_false_iff.2 b9
                        exact AtV.runN tabOk ext3Ok mixed (p3_11 x0 x1) ⟨s0, s1, b0, s2, s3, s4, s5, s6, s7, b1, b2, b3, b4, b5, b6, b7, b8, s8, (by decide), s9, b9, trivial⟩ (ih12 _ _ _ h K q)
                    · rw [if_neg b8] at h
                      replace b8 := Bool.eq_false_iff.2 b8
                      exact AtV.runN tabOk ext3Ok mixed (p3_12 x0 x1) ⟨s0, s1, b0, s2, s3, s4, s5, s6, s7, b1, b2, b3, b4, b5, b6, b7, b8, rfl, trivial⟩ (ih12 _ _ _ h K q)
    · rw [if_neg b0] at h
      replace b0 := Bool.eq_false_iff.2 b0
      exact AtV.runN tabOk ext3Ok mixed (p3_13 x0 x1) ⟨s0, s1, b0, trivial⟩ (ih12 _ _ _ h K q)

  · intro x0 x1 ds h K q
    rw [R3_12] at h
    obtain ⟨s0, h⟩ := h
    by_cases b0 : (g12_1 (g11_0 x1) (g11_1 x1) != 0) = true
    · rw [if_pos b0] at h
      subst h
      exact AtV.fin Tryd.func3 tabOk ext3Ok mixed (p3_14 x0 x1) ⟨s0, trivial, b0, trivial⟩
    · rw [if_neg b0] at h
      replace b0 := Bool.eq_false_iff.2 b0
      exact AtV.runN tabOk ext3Ok mixed (p3_15 x0 x1) ⟨s0, trivial, b0, trivial⟩ (ih16 _ _ _ h K q)

  · intro x0 x1 ds h K q
    rw [R3_16] at h
    obtain ⟨s0, h⟩ := h
    obtain ⟨s1, h⟩ := h
    obtain ⟨s2, h⟩ := h
    obtain ⟨s3, h⟩ := h
    by_cases b0 : (Decidable.decide (g11_0 x1 + g13_0 x0 0 (g11_1 x1 - g11_0 x1 + 1) ≤ 36524)) = true
    · rw [if_pos b0] at h
      exact AtV.runN tabOk ext3Ok mixed (p3_16 x0 x1) ⟨s0, s1, s2, s3, trivial, b0, trivial, trivial⟩ (ih22 _ _ _ _ _ h K q)
    · rw [if_neg b0] at h
      replace b0 := Bool.eq_false_iff.2 b0
      exact AtV.runN tabOk ext3Ok mixed (p3_17 x0 x1) ⟨s0, s1, s2, s3, trivial, b0, trivial⟩ (ih22 _ _ _ _ _ h K q)

  · intro v25 v26 x1 x0 ds h K q
    rw [R3_22] at h
    by_cases b0 : (g12_1 (g11_0 x1) (g11_0 x1 + g13_0 x0 0 (g11_1 x1 - g11_0 x1 + 1)) == 0) = true
    · rw [if_pos b0] at h
      by_cases b1 : (v26 == 0) = true
      · rw [if_pos b1] at h
        obtain ⟨s0, h⟩ := h
        by_cases b2 : (g12_0 (g11_0 x1) (g11_0 x1 + g13_0 x0 0 (g11_1 x1 - g11_0 x1 + 1)) + v25 == g12_0 (g11_0 x1) (g11_1 x1)) = true
        · rw [if_pos b2] at h
          by_cases b3 : (Decidable.decide (g12_0 (g11_0 x1) (g11_1 x1) ≥ 0)) = true
          · rw [if_pos b3] at h
            obtain ⟨s1, h⟩ := h
            by_cases b4 : (Decidable.decide (g12_0 (g11_0 x1) (g11_1 x1) ≤ g11_1 x1 - g11_0 x1)) = true
            · rw [if_pos b4] at h
              obtain ⟨s2, h⟩ := h
              obtain ⟨s3, h⟩ := h
              obtain ⟨s4, h⟩ := h
              obtain ⟨s5, h⟩ := h
              subst h
              exact AtV.fin Tryd.func3 tabOk ext3Ok mixed (p3_18 v25 v26 x1 x0) ⟨b0, b1, s0, b2, b3, s1, b4, s2, s3, s4, s5, trivial⟩
            · rw [if_neg b4] at h
              replace b4 := Bool.eq_false_iff.2 b4
              subst h
              exact AtV.fin Tryd.func3 tabOk ext3Ok mixed (p3_19 v25 v26 x1 x0) ⟨b0, b1, s0, b2, b3, s1, b4, trivial⟩
          · rw [if_neg b3] at h
            replace b3 := Bool.eq_false_iff.2 b3
            subst h
            exact AtV.fin Tryd.func3 tabOk ext3Ok mixed (p3_20 v25 v26 x1 x0) ⟨b0, b1, s0, b2, b3, rfl, trivial⟩
        · rw [if_neg b2] at h
          replace b2 := Bool.eq_false_iff.2 b2
          subst h
          exact AtV.fin Tryd.func3 tabOk ext3Ok mixed (p3_21 v25 v26 x1 x0) ⟨b0, b1, s0, b2, rfl, rfl, trivial⟩
      · rw [if_neg b1] at h
        replace b1 := Bool.eq_false_iff.2 b1
        subst h
        exact AtV.fin Tryd.func3 tabOk ext3Ok mixed (p3_22 v25 v26 x1 x0) ⟨b0, b1, rfl, rfl, rfl, trivial⟩
    · rw [if_neg b0] at h
      replace b0 := Bool.eq_false_iff.2 b0
      subst h
      exact AtV.fin Tryd.func3 tabOk ext3Ok mixed (p3_23 v25 v26 x1 x0) ⟨b0, rfl, rfl, rfl, rfl, trivial⟩



def g3_0 (x0 x1 : List Int) : Bool := true
def P3 (x0 x1 : List Int) : Prop := True

theorem s223 (n : Nat) (x0 x1 : List Int) (v25 v26 : Int) (f u m : Int) (ef : f = g11_0 x1) (eu : u = g11_1 x1) (em : m = g13_0 x0 0 (u - f + 1))
    (hf : 0 ≤ f ∧ f ≤ 36524) (hm : 0 ≤ m) (hu : f + m ≤ u ∧ u ≤ 36525) (hv : v26 = 0)
    (h25 : v25 = wk12 (u - (f + m)).toNat (f + m)) : R3_22 (n + 1) v25 v26 x1 x0 [⟨.bool, true⟩] := by
  obtain ⟨a0, a1⟩ := work_ok (a := f) (b := f + m) hf.1 hf.2 (by omega) (by omega)
  obtain ⟨b0, b1⟩ := work_ok (a := f) (b := u) hf.1 hf.2 (by omega) (by omega)
  have e1 : (f + m - f).toNat + (u - (f + m)).toNat = (u - f).toNat := by omega
  have e2 : f + ((f + m - f).toNat : Int) = f + m := by omega
  have hadd := wk_add (f + m - f).toNat (u - (f + m)).toNat f
  rw [e1, e2] at hadd
  have c1 := wk12_bound (f + m - f).toNat f
  have c2 := wk12_bound (u - (f + m)).toNat (f + m)
  have c3 := wk12_bound (u - f).toNat f
  have c4 := wk_low (u - f).toNat f hf.1
  rw [R3_22, ← ef, ← eu, ← em, hv, a1, a0, b0, h25]
  have k1 : ((0 : Int) == 0) = true := rfl
  rw [if_pos k1, if_pos k1]
  refine ⟨by rw [i64_iff]; omega, ?_⟩
  rw [if_pos (by rw [hadd]; simp), if_pos (by simp only [decide_eq_true_eq]; omega)]
  refine ⟨by rw [i64_iff]; omega, ?_⟩
  rw [if_pos (by simp only [decide_eq_true_eq]; omega)]
  refine ⟨by rw [i64_iff]; omega, by rw [i64_iff]; omega, by rw [i64_iff]; omega, by rw [i64_iff]; omega, ?_⟩
  rw [decide_eq_true (by omega)]

theorem s123 (n : Nat) (x0 x1 : List Int) (h0 : Wf (.sl (.int .u8)) x0) (h1 : Wf (.sl (.int .u8)) x1) : R3_12 (n + 3) x0 x1 [⟨.bool, true⟩] := by
  obtain ⟨p, a1, a2, a3, a4⟩ := draw_work h1
  rw [R3_12]
  refine ⟨p, ?_⟩
  by_cases hc : 0 ≤ g11_0 x1 ∧ g11_0 x1 ≤ 36524 ∧ g11_0 x1 ≤ g11_1 x1 ∧ g11_1 x1 ≤ 36525
  · obtain ⟨d1, d2, d3, d4⟩ := hc
    obtain ⟨q, m0, m1⟩ := at_ok h0 (g11_1 x1 - g11_0 x1 + 1) (by omega)
    rw [if_neg (by rw [(work_ok d1 d2 d3 d4).2]; simp), R3_16]
    refine ⟨by rw [i64_iff]; omega, by rw [i64_iff]; omega, q, by rw [i64_iff]; omega, ?_⟩
    by_cases hm : g11_0 x1 + g13_0 x0 0 (g11_1 x1 - g11_0 x1 + 1) ≤ 36524
    · rw [if_pos (decide_eq_true hm)]
      obtain ⟨w0, w1⟩ := work_ok (a := g11_0 x1 + g13_0 x0 0 (g11_1 x1 - g11_0 x1 + 1)) (b := g11_1 x1) (by omega) hm (by omega) d4
      exact s223 n x0 x1 _ _ _ _ _ rfl rfl rfl ⟨d1, d2⟩ m0 ⟨by omega, d4⟩ w1 w0
    · rw [if_neg (by simp only [decide_eq_true_eq]; exact hm)]
      have e : (g11_1 x1 - (g11_0 x1 + g13_0 x0 0 (g11_1 x1 - g11_0 x1 + 1))).toNat = 0 := by omega
      exact s223 n x0 x1 _ _ _ _ _ rfl rfl rfl ⟨d1, d2⟩ m0 ⟨by omega, d4⟩ rfl (by rw [e]; rfl)
  · obtain ⟨w0, w1⟩ := work_no hc
    rw [if_pos (by rw [w1]; simp), w0]
    rfl

theorem top3 (x0 x1 : List Int) (h0 : Wf (.sl (.int .u8)) x0) (h1 : Wf (.sl (.int .u8)) x1) : R3 5 x0 x1 [⟨.bool, g3_0 x0 x1⟩] := by
  unfold g3_0
  rw [R3]
  split
  · rfl
  split
  · rfl
  obtain ⟨p, _⟩ := draw_date h0
  rw [R3_3]
  by_cases hd : 0 ≤ g5_0 x0 ∧ g5_0 x0 ≤ 36524
  · obtain ⟨p1, p2, p3, p4, e1, e2, e3, e4⟩ := law_day hd
    have z3 : g6_3 (g5_0 x0) = 0 := by unfold g6_3; rw [day_ok hd]; rfl
    obtain ⟨w0, w1⟩ := week_of hd
    refine ⟨p, p1, ?_⟩
    rw [if_pos (by rw [z3]; rfl)]
    refine ⟨p2, p3, p4, week_pre _ (by omega), by rw [i64_iff]; omega, week_pre _ (by omega), ?_⟩
    rw [if_neg (by rw [e1]; simp), if_neg (by rw [e2]; simp), if_neg (by rw [e3]; simp), if_neg (by rw [e4]; simp), if_neg (by rw [w1]; simp), if_neg (by rw [w0]; simp only [decide_eq_true_eq]; omega), if_neg (by rw [w0]; simp only [decide_eq_true_eq]; omega)]
    by_cases hn : g10_1 (g5_0 x0 + 1) = 0
    · have hn' := week_no hn
      obtain ⟨n0, n1⟩ := week_of hn'
      have et : Int.tmod ((g5_0 x0 + 5) % 7 + 1) 7 = ((g5_0 x0 + 5) % 7 + 1) % 7 := Int.tmod_eq_emod_of_nonneg (by omega)
      rw [if_pos (by simp [hn]), w0, n0, et]
      refine ⟨by rw [i64_iff]; omega, by rw [i64_iff]; omega, ?_⟩
      rw [if_neg (by simp only [bne_iff_ne, ne_eq, Decidable.not_not]; omega)]
      exact s123 0 x0 x1 h0 h1
    · rw [if_neg (by simp [hn])]
      exact s123 0 x0 x1 h0 h1
  · obtain ⟨p1, e1⟩ := law_nday hd
    refine ⟨p, p1, ?_⟩
    rw [if_neg (by rw [e1]; simp)]
    exact s123 0 x0 x1 h0 h1

def S3 : Am.Spec := { sig := sig3, pre := fun ⟨x0, x1, _⟩ => P3 x0 x1, res := fun ⟨x0, x1, _⟩ => [⟨Ty.bool, g3_0 x0 x1⟩] }
theorem con3 : Contract Tryd.prog 3 S3 := contract_of Tryd.func3 hb3 (Nat.le_of_ble_eq_true (by kernel_rfl)) (fun ⟨x0, x1, _⟩ h hwf K q =>
  (snd3 5).1 x0 x1 _ (top3 x0 x1 hwf.1 hwf.2.1) K q)

end Go.Proofs.YtkgacclldpicnaaDoor

/- The plain law of FnDates. -/
set_option linter.unusedVariables false
set_option linter.unusedSimpArgs false
set_option maxRecDepth 100000
namespace Go.Proofs.YtkgacclldpicnaaDoor
open Go Go.Am Go.Proofs

theorem law3 (x0 x1 : List Int) (h0 : Wf (.sl (.int .u8)) x0) (h1 : Wf (.sl (.int .u8)) x1) : P3 x0 x1 ∧ g3_0 x0 x1 = true := ⟨trivial, rfl⟩

end Go.Proofs.YtkgacclldpicnaaDoor
