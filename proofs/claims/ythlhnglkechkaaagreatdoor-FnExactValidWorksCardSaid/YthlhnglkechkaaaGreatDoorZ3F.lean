/- Several texts in one: the functions that this law reaches, and their laws. -/
import Derived.Test.YthlhnglkechkaaaGreatDoorZ3A
import Derived.Test.YthlhnglkechkaaaGreatDoorZ3B
import Derived.Test.YthlhnglkechkaaaGreatDoorZ3C
import Derived.Test.YthlhnglkechkaaaGreatDoorZ3D
import Derived.Test.YthlhnglkechkaaaGreatDoorZ3E

/- Function 40 (laws.eqLineS): its runs between cut points. Written by a program of this repo (gen). -/
set_option linter.unusedVariables false
set_option linter.unusedSimpArgs false
set_option maxRecDepth 100000
namespace Go.Proofs.YthlhnglkechkaaaGreatDoor
open Go Go.Am Go.Proofs
noncomputable section
def ext40 : Ext := [(76, S76)]
theorem call40_76 : Callable Tryz.prog 76 := ⟨Tryz.f76, Tryz.func76, by kernel_rfl, by kernel_rfl⟩
theorem ext40Ok : ExtOk Tryz.prog ext40 := ⟨⟨call40_76, con76⟩, trivial⟩

noncomputable def b40 : Code := bodyOf Tryz.f40
theorem hb40 : Tryz.f40.body = some b40 := by kernel_rfl
def sig40 : List AT := [AT.v (Ty.sl (Ty.cons (Ty.int .i64) (Ty.cons (Ty.int .i64) (Ty.cons Ty.str (Ty.cons (Ty.int .i64) Ty.unit))))), AT.v (Ty.sl (Ty.cons (Ty.int .i64) (Ty.cons (Ty.int .i64) (Ty.cons Ty.str (Ty.cons (Ty.int .i64) Ty.unit)))))]
def tys40 : List Ty := [Ty.bool]
def kds40 : List RK := []
def oks40 : List AT := owns sig40
def E40_4 (v5 : Int) (x0 : List TyB2) (x1 : List TyB2) : Env := [(0, PV.a (Atom.sl (Ty.cons (Ty.int .i64) (Ty.cons (Ty.int .i64) (Ty.cons Ty.str (Ty.cons (Ty.int .i64) Ty.unit)))) x0)), (1, PV.a (Atom.sl (Ty.cons (Ty.int .i64) (Ty.cons (Ty.int .i64) (Ty.cons Ty.str (Ty.cons (Ty.int .i64) Ty.unit)))) x1)), (5, PV.a (Atom.val (Value.int .i64 v5)))]
def L40_4 (v5 : Int) (x0 : List TyB2) (x1 : List TyB2) : Heap := []
mutual
def R40 : Nat → List TyB2 → List TyB2 → List Dyn → Prop
  | 0, _, _, _ => False
  | n + 1, x0, x1, ds => (if ((↑(List.length x0) : Int) != (↑(List.length x1) : Int)) = true then (ds = [Dyn.mk Ty.bool false]) else (R40_4 n (0) (x0) (x1) ds))
def R40_4 : Nat → Int → List TyB2 → List TyB2 → List Dyn → Prop
  | 0, _, _, _, _ => False
  | n + 1, v5, x0, x1, ds => (if (decide (v5 < (↑(List.length x0) : Int))) = true then ((0 ≤ v5) ∧ (v5 < (↑(List.length x0) : Int)) ∧ ((0 ≤ v5) ∧ (v5 < (↑(List.length x1) : Int)) ∧ (if (!g76_0 (List.getD x0 (Int.toNat v5) (0, 0, ByteArray.empty, 0, ())) (List.getD x1 (Int.toNat v5) (0, 0, ByteArray.empty, 0, ()))) = true then (ds = [Dyn.mk Ty.bool false]) else ((InR .i64 (v5 + 1)) ∧ (R40_4 n (v5 + 1) (x0) (x1) ds))))) else (ds = [Dyn.mk Ty.bool true]))
end
theorem p40_0 (x0 : List TyB2) (x1 : List TyB2) : runF tab ext40 false 27 [] 2000 [] oks40 kds40 tys40 Tryz.f40.results [true] [.code b40] (entE 0 0 sig40 (x0, x1, ())) (entL sig40 (x0, x1, ())) = some ([Dyn.mk Ty.bool false], [], [((↑(List.length x0) : Int) != (↑(List.length x1) : Int)) = true]) := by kernel_rfl
theorem p40_1 (x0 : List TyB2) (x1 : List TyB2) : Am.runN tab ext40 false 27 [] 2000 [] [] [0, 1, 5] [] [false] [.code b40] (entE 0 0 sig40 (x0, x1, ())) (entL sig40 (x0, x1, ())) = some (cutAt b40 4, E40_4 (0) (x0) (x1), L40_4 (0) (x0) (x1), [((↑(List.length x0) : Int) != (↑(List.length x1) : Int)) = false]) := by kernel_rfl
theorem p40_2 (v5 : Int) (x0 : List TyB2) (x1 : List TyB2) : runF tab ext40 false 27 [] 2000 [] oks40 kds40 tys40 Tryz.f40.results [true, true] (cutAt b40 4) (E40_4 v5 x0 x1) (L40_4 v5 x0 x1) = some ([Dyn.mk Ty.bool false], [], [decide (v5 < (↑(List.length x0) : Int)) = true, 0 ≤ v5, v5 < (↑(List.length x0) : Int), 0 ≤ v5, v5 < (↑(List.length x1) : Int), True, (!g76_0 (List.getD x0 (Int.toNat v5) (0, 0, ByteArray.empty, 0, ())) (List.getD x1 (Int.toNat v5) (0, 0, ByteArray.empty, 0, ()))) = true]) := by kernel_rfl
theorem p40_3 (v5 : Int) (x0 : List TyB2) (x1 : List TyB2) : Am.runN tab ext40 false 27 [] 2000 [] [] [0, 1, 5] [] [true, false] (cutAt b40 4) (E40_4 v5 x0 x1) (L40_4 v5 x0 x1) = some (cutAt b40 4, E40_4 (v5 + 1) (x0) (x1), L40_4 (v5 + 1) (x0) (x1), [decide (v5 < (↑(List.length x0) : Int)) = true, 0 ≤ v5, v5 < (↑(List.length x0) : Int), 0 ≤ v5, v5 < (↑(List.length x1) : Int), True, (!g76_0 (List.getD x0 (Int.toNat v5) (0, 0, ByteArray.empty, 0, ())) (List.getD x1 (Int.toNat v5) (0, 0, ByteArray.empty, 0, ()))) = false, InR .i64 (v5 + 1)]) := by kernel_rfl
theorem p40_4 (v5 : Int) (x0 : List TyB2) (x1 : List TyB2) : runF tab ext40 false 27 [] 2000 [] oks40 kds40 tys40 Tryz.f40.results [false] (cutAt b40 4) (E40_4 v5 x0 x1) (L40_4 v5 x0 x1) = some ([Dyn.mk Ty.bool true], [], [decide (v5 < (↑(List.length x0) : Int)) = false]) := by kernel_rfl
theorem snd40 : ∀ n, (∀ (x0 : List TyB2) (x1 : List TyB2) ds, R40 n x0 x1 ds → ∀ K q, AtV Tryz.prog 40 (PostR kds40 oks40 ds [] [] q K) 27 K q [] [.code b40] (entE 0 0 sig40 (x0, x1, ())) (entL sig40 (x0, x1, ()))) ∧ (∀ (v5 : Int) (x0 : List TyB2) (x1 : List TyB2) ds, R40_4 n v5 x0 x1 ds → ∀ K q, AtV Tryz.prog 40 (PostR kds40 oks40 ds [] [] q K) 27 K q [] (cutAt b40 4) (E40_4 v5 x0 x1) (L40_4 v5 x0 x1)) := by
  intro n
  induction n with
  | zero => exact ⟨fun _ _ _ h => by simp only [R40] at h, fun _ _ _ _ h => by simp only [R40_4] at h⟩
  | succ n ih =>
  obtain ⟨ih, ih4⟩ := ih
  refine ⟨?_, ?_⟩
  · intro x0 x1 ds h K q
    rw [R40] at h
    by_cases b0 : ((↑(List.length x0) : Int) != (↑(List.length x1) : Int)) = true
    · rw [if_pos b0] at h
      subst h
      exact AtV.fin Tryz.func40 tabOk ext40Ok mixed (p40_0 x0 x1) ⟨b0, trivial⟩
    · rw [if_neg b0] at h
      replace b0 := Bool.eq_false_iff.2 b0
      exact AtV.runN tabOk ext40Ok mixed (p40_1 x0 x1) ⟨b0, trivial⟩ (ih4 _ _ _ _ h K q)

  · intro v5 x0 x1 ds h K q
    rw [R40_4] at h
    by_cases b0 : (decide (v5 < (↑(List.length x0) : Int))) = true
    · rw [if_pos b0] at h
      obtain ⟨s0, s1, h⟩ := h
      obtain ⟨s2, s3, h⟩ := h
      by_cases b1 : (!g76_0 (List.getD x0 (Int.toNat v5) (0, 0, ByteArray.empty, 0, ())) (List.getD x1 (Int.toNat v5) (0, 0, ByteArray.empty, 0, ()))) = true
      · rw [if_pos b1] at h
        subst h
        exact AtV.fin Tryz.func40 tabOk ext40Ok mixed (p40_2 v5 x0 x1) ⟨b0, s0, s1, s2, s3, trivial, b1, trivial⟩
      · rw [if_neg b1] at h
        replace b1 := Bool.eq_false_iff.2 b1
        obtain ⟨s4, h⟩ := h
        exact AtV.runN tabOk ext40Ok mixed (p40_3 v5 x0 x1) ⟨b0, s0, s1, s2, s3, trivial, b1, s4, trivial⟩ (ih4 _ _ _ _ h K q)
    · rw [if_neg b0] at h
      replace b0 := Bool.eq_false_iff.2 b0
      subst h
      exact AtV.fin Tryz.func40 tabOk ext40Ok mixed (p40_4 v5 x0 x1) ⟨b0, trivial⟩



theorem eq40 (x0 x1 : List TyB2) (hl : x0.length = x1.length) (hm : x0.length ≤ maxLen) : ∀ k i : Nat, i + k = x0.length → R40_4 (k + 1) (i : Int) x0 x1 [⟨.bool, decide (x0.drop i = x1.drop i)⟩] := by
  intro k
  induction k with
  | zero =>
    intro i hi
    have h1 : ¬ (i : Int) < (x0.length : Int) := by omega
    rw [R40_4, if_neg (by simpa using h1), drop_end x0 i (by omega), drop_end x1 i (by omega)]
    simp
  | succ k ih =>
    intro i hi
    have h1 : (i : Int) < (x0.length : Int) := by omega
    rw [R40_4, if_pos (by simpa using h1)]
    refine ⟨by omega, h1, by omega, by omega, ?_⟩
    simp only [Int.toNat_natCast]
    rw [drop_get x0 i ((0 : Int), (0 : Int), ByteArray.empty, (0 : Int), ()) (by omega), drop_get x1 i ((0 : Int), (0 : Int), ByteArray.empty, (0 : Int), ()) (by omega)]
    by_cases he : x0.getD i ((0 : Int), (0 : Int), ByteArray.empty, (0 : Int), ()) = x1.getD i ((0 : Int), (0 : Int), ByteArray.empty, (0 : Int), ())
    · have hd := (eqd76 _ _).2 he
      rw [if_neg (by rw [hd]; simp)]
      refine ⟨inR_up hm (by omega), ?_⟩
      have := ih (i + 1) (by omega)
      simp only [he, List.cons.injEq, true_and]
      exact this
    · have hd : g76_0 (x0.getD i ((0 : Int), (0 : Int), ByteArray.empty, (0 : Int), ())) (x1.getD i ((0 : Int), (0 : Int), ByteArray.empty, (0 : Int), ())) = false :=
        Bool.eq_false_iff.2 fun h => he ((eqd76 _ _).1 h)
      rw [if_pos (by rw [hd]; rfl)]
      simp only [he, List.cons.injEq, false_and, decide_false]

def g40_0 (x0 x1 : List TyB2) : Bool := decide (x0 = x1)
def P40 (x0 x1 : List TyB2) : Prop := True
def S40 : Am.Spec := { sig := sig40, pre := fun ⟨x0, x1, _⟩ => P40 x0 x1, res := fun ⟨x0, x1, _⟩ => [⟨Ty.bool, g40_0 x0 x1⟩] }
theorem con40 : Contract Tryz.prog 40 S40 := contract_of Tryz.func40 hb40 (Nat.le_of_ble_eq_true (by kernel_rfl)) (fun ⟨x0, x1, _⟩ h hwf K q => by
  refine (snd40 (x0.length + 2)).1 x0 x1 _ ?_ K q
  show R40 (x0.length + 1 + 1) x0 x1 [⟨Ty.bool, decide (x0 = x1)⟩]
  rw [R40]
  by_cases hl : x0.length = x1.length
  · rw [if_neg (by simp [hl])]
    have := eq40 x0 x1 hl hwf.1.1 x0.length 0 (by omega)
    simpa using this
  · rw [if_pos (by simp; omega)]
    have : x0 ≠ x1 := fun h => hl (by rw [h])
    simp [this])

end
end Go.Proofs.YthlhnglkechkaaaGreatDoor

/- Function 8 (laws.eqWorks): its runs between cut points. Written by a program of this repo (gen). -/
set_option linter.unusedVariables false
set_option linter.unusedSimpArgs false
set_option maxRecDepth 100000
namespace Go.Proofs.YthlhnglkechkaaaGreatDoor
open Go Go.Am Go.Proofs
noncomputable section
def ext8 : Ext := [(33, S33), (34, S34), (35, S35), (36, S36), (37, S37), (38, S38), (39, S39), (40, S40)]
theorem call8_33 : Callable Tryz.prog 33 := ⟨Tryz.f33, Tryz.func33, by kernel_rfl, by kernel_rfl⟩
theorem call8_34 : Callable Tryz.prog 34 := ⟨Tryz.f34, Tryz.func34, by kernel_rfl, by kernel_rfl⟩
theorem call8_35 : Callable Tryz.prog 35 := ⟨Tryz.f35, Tryz.func35, by kernel_rfl, by kernel_rfl⟩
theorem call8_36 : Callable Tryz.prog 36 := ⟨Tryz.f36, Tryz.func36, by kernel_rfl, by kernel_rfl⟩
theorem call8_37 : Callable Tryz.prog 37 := ⟨Tryz.f37, Tryz.func37, by kernel_rfl, by kernel_rfl⟩
theorem call8_38 : Callable Tryz.prog 38 := ⟨Tryz.f38, Tryz.func38, by kernel_rfl, by kernel_rfl⟩
theorem call8_39 : Callable Tryz.prog 39 := ⟨Tryz.f39, Tryz.func39, by kernel_rfl, by kernel_rfl⟩
theorem call8_40 : Callable Tryz.prog 40 := ⟨Tryz.f40, Tryz.func40, by kernel_rfl, by kernel_rfl⟩
theorem ext8Ok : ExtOk Tryz.prog ext8 := ⟨⟨call8_33, con33⟩, ⟨call8_34, con34⟩, ⟨call8_35, con35⟩, ⟨call8_36, con36⟩, ⟨call8_37, con37⟩, ⟨call8_38, con38⟩, ⟨call8_39, con39⟩, ⟨call8_40, con40⟩, trivial⟩

noncomputable def b8 : Code := bodyOf Tryz.f8
theorem hb8 : Tryz.f8.body = some b8 := by kernel_rfl
def sig8 : List AT := [AT.v (Ty.cons (Ty.cons (Ty.sl (Ty.cons (Ty.int .i64) (Ty.cons (Ty.int .i64) Ty.unit))) (Ty.cons (Ty.int .i64) (Ty.cons (Ty.int .i64) Ty.unit))) (Ty.cons (Ty.int .i64) (Ty.cons (Ty.cons (Ty.int .i64) (Ty.cons (Ty.int .i64) Ty.unit)) (Ty.cons (Ty.cons (Ty.int .i64) (Ty.cons (Ty.int .i64) (Ty.cons (Ty.int .i64) (Ty.cons (Ty.int .i64) Ty.unit)))) (Ty.cons (Ty.sl (Ty.cons Ty.str (Ty.cons (Ty.int .i64) (Ty.cons (Ty.int .i64) (Ty.cons (Ty.int .i64) Ty.unit))))) (Ty.cons (Ty.cons (Ty.int .i64) (Ty.cons (Ty.int .i64) (Ty.cons (Ty.int .i64) Ty.unit))) (Ty.cons (Ty.sl (Ty.cons Ty.str (Ty.cons (Ty.int .i64) (Ty.cons (Ty.int .i64) (Ty.cons (Ty.int .i64) (Ty.cons (Ty.int .i64) Ty.unit)))))) (Ty.cons (Ty.int .i64) (Ty.cons (Ty.int .i64) (Ty.cons (Ty.sl (Ty.cons (Ty.int .i64) (Ty.cons (Ty.int .i64) Ty.unit))) (Ty.cons (Ty.int .i64) (Ty.cons (Ty.sl (Ty.cons (Ty.int .i64) (Ty.cons (Ty.int .i64) (Ty.cons Ty.str (Ty.cons (Ty.int .i64) Ty.unit))))) Ty.unit)))))))))))), AT.v (Ty.cons (Ty.cons (Ty.sl (Ty.cons (Ty.int .i64) (Ty.cons (Ty.int .i64) Ty.unit))) (Ty.cons (Ty.int .i64) (Ty.cons (Ty.int .i64) Ty.unit))) (Ty.cons (Ty.int .i64) (Ty.cons (Ty.cons (Ty.int .i64) (Ty.cons (Ty.int .i64) Ty.unit)) (Ty.cons (Ty.cons (Ty.int .i64) (Ty.cons (Ty.int .i64) (Ty.cons (Ty.int .i64) (Ty.cons (Ty.int .i64) Ty.unit)))) (Ty.cons (Ty.sl (Ty.cons Ty.str (Ty.cons (Ty.int .i64) (Ty.cons (Ty.int .i64) (Ty.cons (Ty.int .i64) Ty.unit))))) (Ty.cons (Ty.cons (Ty.int .i64) (Ty.cons (Ty.int .i64) (Ty.cons (Ty.int .i64) Ty.unit))) (Ty.cons (Ty.sl (Ty.cons Ty.str (Ty.cons (Ty.int .i64) (Ty.cons (Ty.int .i64) (Ty.cons (Ty.int .i64) (Ty.cons (Ty.int .i64) Ty.unit)))))) (Ty.cons (Ty.int .i64) (Ty.cons (Ty.int .i64) (Ty.cons (Ty.sl (Ty.cons (Ty.int .i64) (Ty.cons (Ty.int .i64) Ty.unit))) (Ty.cons (Ty.int .i64) (Ty.cons (Ty.sl (Ty.cons (Ty.int .i64) (Ty.cons (Ty.int .i64) (Ty.cons Ty.str (Ty.cons (Ty.int .i64) Ty.unit))))) Ty.unit))))))))))))]
def tys8 : List Ty := [Ty.bool]
def kds8 : List RK := []
def oks8 : List AT := owns sig8
def P8 (x0 : TyA0) (x1 : TyA0) : Prop := True
def g8_0 (x0 : TyA0) (x1 : TyA0) : Bool := (if (!g33_0 x0.1 x1.1) = true then false else (if (x0.2.1 != x1.2.1) = true then false else (if (!g34_0 x0.2.2.1 x1.2.2.1) = true then false else (if (!g35_0 x0.2.2.2.1 x1.2.2.2.1) = true then false else (if (!g36_0 x0.2.2.2.2.1 x1.2.2.2.2.1) = true then false else (if (!g37_0 x0.2.2.2.2.2.1 x1.2.2.2.2.2.1) = true then false else (if (!g38_0 x0.2.2.2.2.2.2.1 x1.2.2.2.2.2.2.1) = true then false else (if (x0.2.2.2.2.2.2.2.1 != x1.2.2.2.2.2.2.2.1) = true then false else (if (x0.2.2.2.2.2.2.2.2.1 != x1.2.2.2.2.2.2.2.2.1) = true then false else (if (!g39_0 x0.2.2.2.2.2.2.2.2.2.1 x1.2.2.2.2.2.2.2.2.2.1) = true then false else (if (x0.2.2.2.2.2.2.2.2.2.2.1 != x1.2.2.2.2.2.2.2.2.2.2.1) = true then false else (if (!g40_0 x0.2.2.2.2.2.2.2.2.2.2.2.1 x1.2.2.2.2.2.2.2.2.2.2.2.1) = true then false else true))))))))))))
theorem p8_0 (x0 : TyA0) (x1 : TyA0) : runF tab ext8 false 73 [] 2000 [] oks8 kds8 tys8 Tryz.f8.results [true] [.code b8] (entE 0 0 sig8 (x0, x1, ())) (entL sig8 (x0, x1, ())) = some ([Dyn.mk Ty.bool false], [], [True, (!g33_0 x0.1 x1.1) = true]) := by kernel_rfl
theorem p8_1 (x0 : TyA0) (x1 : TyA0) : runF tab ext8 false 73 [] 2000 [] oks8 kds8 tys8 Tryz.f8.results [false, true] [.code b8] (entE 0 0 sig8 (x0, x1, ())) (entL sig8 (x0, x1, ())) = some ([Dyn.mk Ty.bool false], [], [True, (!g33_0 x0.1 x1.1) = false, (x0.2.1 != x1.2.1) = true]) := by kernel_rfl
theorem p8_2 (x0 : TyA0) (x1 : TyA0) : runF tab ext8 false 73 [] 2000 [] oks8 kds8 tys8 Tryz.f8.results [false, false, true] [.code b8] (entE 0 0 sig8 (x0, x1, ())) (entL sig8 (x0, x1, ())) = some ([Dyn.mk Ty.bool false], [], [True, (!g33_0 x0.1 x1.1) = false, (x0.2.1 != x1.2.1) = false, True, (!g34_0 x0.2.2.1 x1.2.2.1) = true]) := by kernel_rfl
theorem p8_3 (x0 : TyA0) (x1 : TyA0) : runF tab ext8 false 73 [] 2000 [] oks8 kds8 tys8 Tryz.f8.results [false, false, false, true] [.code b8] (entE 0 0 sig8 (x0, x1, ())) (entL sig8 (x0, x1, ())) = some ([Dyn.mk Ty.bool false], [], [True, (!g33_0 x0.1 x1.1) = false, (x0.2.1 != x1.2.1) = false, True, (!g34_0 x0.2.2.1 x1.2.2.1) = false, True, (!g35_0 x0.2.2.2.1 x1.2.2.2.1) = true]) := by kernel_rfl
theorem p8_4 (x0 : TyA0) (x1 : TyA0) : runF tab ext8 false 73 [] 2000 [] oks8 kds8 tys8 Tryz.f8.results [false, false, false, false, true] [.code b8] (entE 0 0 sig8 (x0, x1, ())) (entL sig8 (x0, x1, ())) = some ([Dyn.mk Ty.bool false], [], [True, (!g33_0 x0.1 x1.1) = false, (x0.2.1 != x1.2.1) = false, True, (!g34_0 x0.2.2.1 x1.2.2.1) = false, True, (!g35_0 x0.2.2.2.1 x1.2.2.2.1) = false, True, (!g36_0 x0.2.2.2.2.1 x1.2.2.2.2.1) = true]) := by kernel_rfl
theorem p8_5 (x0 : TyA0) (x1 : TyA0) : runF tab ext8 false 73 [] 2000 [] oks8 kds8 tys8 Tryz.f8.results [false, false, false, false, false, true] [.code b8] (entE 0 0 sig8 (x0, x1, ())) (entL sig8 (x0, x1, ())) = some ([Dyn.mk Ty.bool false], [], [True, (!g33_0 x0.1 x1.1) = false, (x0.2.1 != x1.2.1) = false, True, (!g34_0 x0.2.2.1 x1.2.2.1) = false, True, (!g35_0 x0.2.2.2.1 x1.2.2.2.1) = false, True, (!g36_0 x0.2.2.2.2.1 x1.2.2.2.2.1) = false, True, (!g37_0 x0.2.2.2.2.2.1 x1.2.2.2.2.2.1) = true]) := by kernel_rfl
theorem p8_6 (x0 : TyA0) (x1 : TyA0) : runF tab ext8 false 73 [] 2000 [] oks8 kds8 tys8 Tryz.f8.results [false, false, false, false, false, false, true] [.code b8] (entE 0 0 sig8 (x0, x1, ())) (entL sig8 (x0, x1, ())) = some ([Dyn.mk Ty.bool false], [], [True, (!g33_0 x0.1 x1.1) = false, (x0.2.1 != x1.2.1) = false, True, (!g34_0 x0.2.2.1 x1.2.2.1) = false, True, (!g35_0 x0.2.2.2.1 x1.2.2.2.1) = false, True, (!g36_0 x0.2.2.2.2.1 x1.2.2.2.2.1) = false, True, (!g37_0 x0.2.2.2.2.2.1 x1.2.2.2.2.2.1) = false, True, (!g38_0 x0.2.2.2.2.2.2.1 x1.2.2.2.2.2.2.1) = true]) := by kernel_rfl
theorem p8_7 (x0 : TyA0) (x1 : TyA0) : runF tab ext8 false 73 [] 2000 [] oks8 kds8 tys8 Tryz.f8.results [false, false, false, false, false, false, false, true] [.code b8] (entE 0 0 sig8 (x0, x1, ())) (entL sig8 (x0, x1, ())) = some ([Dyn.mk Ty.bool false], [], [True, (!g33_0 x0.1 x1.1) = false, (x0.2.1 != x1.2.1) = false, True, (!g34_0 x0.2.2.1 x1.2.2.1) = false, True, (!g35_0 x0.2.2.2.1 x1.2.2.2.1) = false, True, (!g36_0 x0.2.2.2.2.1 x1.2.2.2.2.1) = false, True, (!g37_0 x0.2.2.2.2.2.1 x1.2.2.2.2.2.1) = false, True, (!g38_0 x0.2.2.2.2.2.2.1 x1.2.2.2.2.2.2.1) = false, (x0.2.2.2.2.2.2.2.1 != x1.2.2.2.2.2.2.2.1) = true]) := by kernel_rfl
theorem p8_8 (x0 : TyA0) (x1 : TyA0) : runF tab ext8 false 73 [] 2000 [] oks8 kds8 tys8 Tryz.f8.results [false, false, false, false, false, false, false, false, true] [.code b8] (entE 0 0 sig8 (x0, x1, ())) (entL sig8 (x0, x1, ())) = some ([Dyn.mk Ty.bool false], [], [True, (!g33_0 x0.1 x1.1) = false, (x0.2.1 != x1.2.1) = false, True, (!g34_0 x0.2.2.1 x1.2.2.1) = false, True, (!g35_0 x0.2.2.2.1 x1.2.2.2.1) = false, True, (!g36_0 x0.2.2.2.2.1 x1.2.2.2.2.1) = false, True, (!g37_0 x0.2.2.2.2.2.1 x1.2.2.2.2.2.1) = false, True, (!g38_0 x0.2.2.2.2.2.2.1 x1.2.2.2.2.2.2.1) = false, (x0.2.2.2.2.2.2.2.1 != x1.2.2.2.2.2.2.2.1) = false, (x0.2.2.2.2.2.2.2.2.1 != x1.2.2.2.2.2.2.2.2.1) = true]) := by kernel_rfl
theorem p8_9 (x0 : TyA0) (x1 : TyA0) : runF tab ext8 false 73 [] 2000 [] oks8 kds8 tys8 Tryz.f8.results [false, false, false, false, false, false, false, false, false, true] [.code b8] (entE 0 0 sig8 (x0, x1, ())) (entL sig8 (x0, x1, ())) = some ([Dyn.mk Ty.bool false], [], [True, (!g33_0 x0.1 x1.1) = false, (x0.2.1 != x1.2.1) = false, True, (!g34_0 x0.2.2.1 x1.2.2.1) = false, True, (!g35_0 x0.2.2.2.1 x1.2.2.2.1) = false, True, (!g36_0 x0.2.2.2.2.1 x1.2.2.2.2.1) = false, True, (!g37_0 x0.2.2.2.2.2.1 x1.2.2.2.2.2.1) = false, True, (!g38_0 x0.2.2.2.2.2.2.1 x1.2.2.2.2.2.2.1) = false, (x0.2.2.2.2.2.2.2.1 != x1.2.2.2.2.2.2.2.1) = false, (x0.2.2.2.2.2.2.2.2.1 != x1.2.2.2.2.2.2.2.2.1) = false, True, (!g39_0 x0.2.2.2.2.2.2.2.2.2.1 x1.2.2.2.2.2.2.2.2.2.1) = true]) := by kernel_rfl
theorem p8_10 (x0 : TyA0) (x1 : TyA0) : runF tab ext8 false 73 [] 2000 [] oks8 kds8 tys8 Tryz.f8.results [false, false, false, false, false, false, false, false, false, false, true] [.code b8] (entE 0 0 sig8 (x0, x1, ())) (entL sig8 (x0, x1, ())) = some ([Dyn.mk Ty.bool false], [], [True, (!g33_0 x0.1 x1.1) = false, (x0.2.1 != x1.2.1) = false, True, (!g34_0 x0.2.2.1 x1.2.2.1) = false, True, (!g35_0 x0.2.2.2.1 x1.2.2.2.1) = false, True, (!g36_0 x0.2.2.2.2.1 x1.2.2.2.2.1) = false, True, (!g37_0 x0.2.2.2.2.2.1 x1.2.2.2.2.2.1) = false, True, (!g38_0 x0.2.2.2.2.2.2.1 x1.2.2.2.2.2.2.1) = false, (x0.2.2.2.2.2.2.2.1 != x1.2.2.2.2.2.2.2.1) = false, (x0.2.2.2.2.2.2.2.2.1 != x1.2.2.2.2.2.2.2.2.1) = false, True, (!g39_0 x0.2.2.2.2.2.2.2.2.2.1 x1.2.2.2.2.2.2.2.2.2.1) = false, (x0.2.2.2.2.2.2.2.2.2.2.1 != x1.2.2.2.2.2.2.2.2.2.2.1) = true]) := by kernel_rfl
theorem p8_11 (x0 : TyA0) (x1 : TyA0) : runF tab ext8 false 73 [] 2000 [] oks8 kds8 tys8 Tryz.f8.results [false, false, false, false, false, false, false, false, false, false, false, true] [.code b8] (entE 0 0 sig8 (x0, x1, ())) (entL sig8 (x0, x1, ())) = some ([Dyn.mk Ty.bool false], [], [True, (!g33_0 x0.1 x1.1) = false, (x0.2.1 != x1.2.1) = false, True, (!g34_0 x0.2.2.1 x1.2.2.1) = false, True, (!g35_0 x0.2.2.2.1 x1.2.2.2.1) = false, True, (!g36_0 x0.2.2.2.2.1 x1.2.2.2.2.1) = false, True, (!g37_0 x0.2.2.2.2.2.1 x1.2.2.2.2.2.1) = false, True, (!g38_0 x0.2.2.2.2.2.2.1 x1.2.2.2.2.2.2.1) = false, (x0.2.2.2.2.2.2.2.1 != x1.2.2.2.2.2.2.2.1) = false, (x0.2.2.2.2.2.2.2.2.1 != x1.2.2.2.2.2.2.2.2.1) = false, True, (!g39_0 x0.2.2.2.2.2.2.2.2.2.1 x1.2.2.2.2.2.2.2.2.2.1) = false, (x0.2.2.2.2.2.2.2.2.2.2.1 != x1.2.2.2.2.2.2.2.2.2.2.1) = false, True, (!g40_0 x0.2.2.2.2.2.2.2.2.2.2.2.1 x1.2.2.2.2.2.2.2.2.2.2.2.1) = true]) := by kernel_rfl
theorem p8_12 (x0 : TyA0) (x1 : TyA0) : runF tab ext8 false 73 [] 2000 [] oks8 kds8 tys8 Tryz.f8.results [false, false, false, false, false, false, false, false, false, false, false, false] [.code b8] (entE 0 0 sig8 (x0, x1, ())) (entL sig8 (x0, x1, ())) = some ([Dyn.mk Ty.bool true], [], [True, (!g33_0 x0.1 x1.1) = false, (x0.2.1 != x1.2.1) = false, True, (!g34_0 x0.2.2.1 x1.2.2.1) = false, True, (!g35_0 x0.2.2.2.1 x1.2.2.2.1) = false, True, (!g36_0 x0.2.2.2.2.1 x1.2.2.2.2.1) = false, True, (!g37_0 x0.2.2.2.2.2.1 x1.2.2.2.2.2.1) = false, True, (!g38_0 x0.2.2.2.2.2.2.1 x1.2.2.2.2.2.2.1) = false, (x0.2.2.2.2.2.2.2.1 != x1.2.2.2.2.2.2.2.1) = false, (x0.2.2.2.2.2.2.2.2.1 != x1.2.2.2.2.2.2.2.2.1) = false, True, (!g39_0 x0.2.2.2.2.2.2.2.2.2.1 x1.2.2.2.2.2.2.2.2.2.1) = false, (x0.2.2.2.2.2.2.2.2.2.2.1 != x1.2.2.2.2.2.2.2.2.2.2.1) = false, True, (!g40_0 x0.2.2.2.2.2.2.2.2.2.2.2.1 x1.2.2.2.2.2.2.2.2.2.2.2.1) = false]) := by kernel_rfl
theorem at8 (x0 : TyA0) (x1 : TyA0) (h : P8 x0 x1) (K : Ctx) (q : Nat → Value) : AtV Tryz.prog 8 (PostR kds8 oks8 [⟨Ty.bool, g8_0 x0 x1⟩] [] [] q K) 73 K q [] [.code b8] (entE 0 0 sig8 (x0, x1, ())) (entL sig8 (x0, x1, ())) := by
  unfold P8 at h
  unfold g8_0
  by_cases b0 : (!g33_0 x0.1 x1.1) = true
  · try simp only [if_pos b0] at h ⊢
    exact AtV.fin Tryz.func8 tabOk ext8Ok mixed (p8_0 x0 x1) ⟨trivial, b0, trivial⟩
  · try simp only [if_neg b0] at h ⊢
    replace b0 := Bool.eq_false_iff.2 b0
    by_cases b1 : (x0.2.1 != x1.2.1) = true
    · try simp only [if_pos b1] at h ⊢
      exact AtV.fin Tryz.func8 tabOk ext8Ok mixed (p8_1 x0 x1) ⟨trivial, b0, b1, trivial⟩
    · try simp only [if_neg b1] at h ⊢
      replace b1 := Bool.eq_false_iff.2 b1
      by_cases b2 : (!g34_0 x0.2.2.1 x1.2.2.1) = true
      · try simp only [if_pos b2] at h ⊢
        exact AtV.fin Tryz.func8 tabOk ext8Ok mixed (p8_2 x0 x1) ⟨trivial, b0, b1, trivial, b2, trivial⟩
      · try simp only [if_neg b2] at h ⊢
        replace b2 := Bool.eq_false_iff.2 b2
        by_cases b3 : (!g35_0 x0.2.2.2.1 x1.2.2.2.1) = true
        · try simp only [if_pos b3] at h ⊢
          exact AtV.fin Tryz.func8 tabOk ext8Ok mixed (p8_3 x0 x1) ⟨trivial, b0, b1, trivial, b2, trivial, b3, trivial⟩
        · try simp only [if_neg b3] at h ⊢
          replace b3 := Bool.eq_false_iff.2 b3
          by_cases b4 : (!g36_0 x0.2.2.2.2.1 x1.2.2.2.2.1) = true
          · try simp only [if_pos b4] at h ⊢
            exact AtV.fin Tryz.func8 tabOk ext8Ok mixed (p8_4 x0 x1) ⟨trivial, b0, b1, trivial, b2, trivial, b3, trivial, b4, trivial⟩
          · try simp only [if_neg b4] at h ⊢
            replace b4 := Bool.eq_false_iff.2 b4
            by_cases b5 : (!g37_0 x0.2.2.2.2.2.1 x1.2.2.2.2.2.1) = true
            · try simp only [if_pos b5] at h ⊢
              exact AtV.fin Tryz.func8 tabOk ext8Ok mixed (p8_5 x0 x1) ⟨trivial, b0, b1, trivial, b2, trivial, b3, trivial, b4, trivial, b5, trivial⟩
            · try simp only [if_neg b5] at h ⊢
              replace b5 := Bool.eq_false_iff.2 b5
              by_cases b6 : (!g38_0 x0.2.2.2.2.2.2.1 x1.2.2.2.2.2.2.1) = true
              · try simp only [if_pos b6] at h ⊢
                exact AtV.fin Tryz.func8 tabOk ext8Ok mixed (p8_6 x0 x1) ⟨trivial, b0, b1, trivial, b2, trivial, b3, trivial, b4, trivial, b5, trivial, b6, trivial⟩
              · try simp only [if_neg b6] at h ⊢
                replace b6 := Bool.eq_false_iff.2 b6
                by_cases b7 : (x0.2.2.2.2.2.2.2.1 != x1.2.2.2.2.2.2.2.1) = true
                · try simp only [if_pos b7] at h ⊢
                  exact AtV.fin Tryz.func8 tabOk ext8Ok mixed (p8_7 x0 x1) ⟨trivial, b0, b1, trivial, b2, trivial, b3, trivial, b4, trivial, b5, trivial, b6, b7, trivial⟩
                · try simp only [if_neg b7] at h ⊢
                  replace b7 := Bool.eq_false_iff.2 b7
                  by_cases b8 : (x0.2.2.2.2.2.2.2.2.1 != x1.2.2.2.2.2.2.2.2.1) = true
                  · try simp only [if_pos b8] at h ⊢
                    exact AtV.fin Tryz.func8 tabOk ext8Ok mixed (p8_8 x0 x1) ⟨trivial, b0, b1, trivial, b2, trivial, b3, trivial, b4, trivial, b5, trivial, b6, b7, b8, trivial⟩
                  · try simp only [if_neg b8] at h ⊢
                    replace b8 := Bool.eq_false_iff.2 b8
                    by_cases b9 : (!g39_0 x0.2.2.2.2.2.2.2.2.2.1 x1.2.2.2.2.2.2.2.2.2.1) = true
                    · try simp only [if_pos b9] at h ⊢
                      exact AtV.fin Tryz.func8 tabOk ext8Ok mixed (p8_9 x0 x1) ⟨trivial, b0, b1, trivial, b2, trivial, b3, trivial, b4, trivial, b5, trivial, b6, b7, b8, trivial, b9, trivial⟩
                    · try simp only [if_neg b9] at h ⊢
                      replace b9 := Bool.eq_false_iff.2 b9
                      by_cases b10 : (x0.2.2.2.2.2.2.2.2.2.2.1 != x1.2.2.2.2.2.2.2.2.2.2.1) = true
                      · try simp only [if_pos b10] at h ⊢
                        exact AtV.fin Tryz.func8 tabOk ext8Ok mixed (p8_10 x0 x1) ⟨trivial, b0, b1, trivial, b2, trivial, b3, trivial, b4, trivial, b5, trivial, b6, b7, b8, trivial, b9, b10, trivial⟩
                      · try simp only [if_neg b10] at h ⊢
                        replace b10 := Bool.eq_false_iff.2 b10
                        by_cases b11 : (!g40_0 x0.2.2.2.2.2.2.2.2.2.2.2.1 x1.2.2.2.2.2.2.2.2.2.2.2.1) = true
                        · try simp only [if_pos b11] at h ⊢
                          exact AtV.fin Tryz.func8 tabOk ext8Ok mixed (p8_11 x0 x1) ⟨trivial, b0, b1, trivial, b2, trivial, b3, trivial, b4, trivial, b5, trivial, b6, b7, b8, trivial, b9, b10, trivial, b11, trivial⟩
                        · try simp only [if_neg b11] at h ⊢
                          replace b11 := Bool.eq_false_iff.2 b11
                          exact AtV.fin Tryz.func8 tabOk ext8Ok mixed (p8_12 x0 x1) ⟨trivial, b0, b1, trivial, b2, trivial, b3, trivial, b4, trivial, b5, trivial, b6, b7, b8, trivial, b9, b10, trivial, b11, trivial⟩

def S8 : Am.Spec := { sig := sig8, pre := fun ⟨x0, x1, _⟩ => P8 x0 x1, res := fun ⟨x0, x1, _⟩ => [⟨Ty.bool, g8_0 x0 x1⟩], kds := kds8 }
theorem con8 : Contract Tryz.prog 8 S8 := contract_of Tryz.func8 hb8 (Nat.le_of_ble_eq_true (by kernel_rfl)) (fun ⟨x0, x1, _⟩ h _ K q => at8 x0 x1 h K q)


end
end Go.Proofs.YthlhnglkechkaaaGreatDoor

/- Function 3 (laws.FnExactValidWorks): its runs between cut points. Written by a program of this repo (gen). -/
set_option linter.unusedVariables false
set_option linter.unusedSimpArgs false
set_option maxRecDepth 100000
namespace Go.Proofs.YthlhnglkechkaaaGreatDoor
open Go Go.Am Go.Proofs
noncomputable section
def ext3 : Ext := [(4, S4), (6, S6), (5, S5), (7, S7), (8, S8)]
theorem call3_4 : Callable Tryz.prog 4 := ⟨Tryz.f4, Tryz.func4, by kernel_rfl, by kernel_rfl⟩
theorem call3_6 : Callable Tryz.prog 6 := ⟨Tryz.f6, Tryz.func6, by kernel_rfl, by kernel_rfl⟩
theorem call3_5 : Callable Tryz.prog 5 := ⟨Tryz.f5, Tryz.func5, by kernel_rfl, by kernel_rfl⟩
theorem call3_7 : Callable Tryz.prog 7 := ⟨Tryz.f7, Tryz.func7, by kernel_rfl, by kernel_rfl⟩
theorem call3_8 : Callable Tryz.prog 8 := ⟨Tryz.f8, Tryz.func8, by kernel_rfl, by kernel_rfl⟩
theorem ext3Ok : ExtOk Tryz.prog ext3 := ⟨⟨call3_4, con4⟩, ⟨call3_6, con6⟩, ⟨call3_5, con5⟩, ⟨call3_7, con7⟩, ⟨call3_8, con8⟩, trivial⟩

noncomputable def b3 : Code := bodyOf Tryz.f3
theorem hb3 : Tryz.f3.body = some b3 := by kernel_rfl
def sig3 : List AT := [AT.v (Ty.cons (Ty.cons (Ty.sl (Ty.cons (Ty.int .i64) (Ty.cons (Ty.int .i64) Ty.unit))) (Ty.cons (Ty.int .i64) (Ty.cons (Ty.int .i64) Ty.unit))) (Ty.cons (Ty.int .i64) (Ty.cons (Ty.cons (Ty.int .i64) (Ty.cons (Ty.int .i64) Ty.unit)) (Ty.cons (Ty.cons (Ty.int .i64) (Ty.cons (Ty.int .i64) (Ty.cons (Ty.int .i64) (Ty.cons (Ty.int .i64) Ty.unit)))) (Ty.cons (Ty.sl (Ty.cons Ty.str (Ty.cons (Ty.int .i64) (Ty.cons (Ty.int .i64) (Ty.cons (Ty.int .i64) Ty.unit))))) (Ty.cons (Ty.cons (Ty.int .i64) (Ty.cons (Ty.int .i64) (Ty.cons (Ty.int .i64) Ty.unit))) (Ty.cons (Ty.sl (Ty.cons Ty.str (Ty.cons (Ty.int .i64) (Ty.cons (Ty.int .i64) (Ty.cons (Ty.int .i64) (Ty.cons (Ty.int .i64) Ty.unit)))))) (Ty.cons (Ty.int .i64) (Ty.cons (Ty.int .i64) (Ty.cons (Ty.sl (Ty.cons (Ty.int .i64) (Ty.cons (Ty.int .i64) Ty.unit))) (Ty.cons (Ty.int .i64) (Ty.cons (Ty.sl (Ty.cons (Ty.int .i64) (Ty.cons (Ty.int .i64) (Ty.cons Ty.str (Ty.cons (Ty.int .i64) Ty.unit))))) Ty.unit))))))))))))]
def tys3 : List Ty := [Ty.bool]
def kds3 : List RK := []
def oks3 : List AT := owns sig3
def P3 (x0 : TyA0) : Prop := ((P4 x0 1048576) ∧ (if (decide (g4_0 x0 1048576 < 0)) = true then True else ((P6 x0) ∧ ((P6 x0) ∧ (if (!g7_0 (((g6_0 x0).1.1, (g6_0 x0).1.2.1, (g6_0 x0).1.2.2.1, ()), (g6_0 x0).2.1, ((g6_0 x0).2.2.1.1, (g6_0 x0).2.2.1.2.1, ()), ((g6_0 x0).2.2.2.1.1, (g6_0 x0).2.2.2.1.2.1, (g6_0 x0).2.2.2.1.2.2.1, (g6_0 x0).2.2.2.1.2.2.2.1, ()), (g6_0 x0).2.2.2.2.1, ((g6_0 x0).2.2.2.2.2.1.1, (g6_0 x0).2.2.2.2.2.1.2.1, (g6_0 x0).2.2.2.2.2.1.2.2.1, ()), (g6_0 x0).2.2.2.2.2.2.1, (g6_0 x0).2.2.2.2.2.2.2.1, (g6_0 x0).2.2.2.2.2.2.2.2.1, (g6_0 x0).2.2.2.2.2.2.2.2.2.1, (g6_0 x0).2.2.2.2.2.2.2.2.2.2.1, (g6_0 x0).2.2.2.2.2.2.2.2.2.2.2.1, ()) == g5_0 (g6_0 x0)) = true then True else ((P6 x0) ∧ True))))))
def g3_0 (x0 : TyA0) : Bool := (if (decide (g4_0 x0 1048576 < 0)) = true then true else (if (!g7_0 (((g6_0 x0).1.1, (g6_0 x0).1.2.1, (g6_0 x0).1.2.2.1, ()), (g6_0 x0).2.1, ((g6_0 x0).2.2.1.1, (g6_0 x0).2.2.1.2.1, ()), ((g6_0 x0).2.2.2.1.1, (g6_0 x0).2.2.2.1.2.1, (g6_0 x0).2.2.2.1.2.2.1, (g6_0 x0).2.2.2.1.2.2.2.1, ()), (g6_0 x0).2.2.2.2.1, ((g6_0 x0).2.2.2.2.2.1.1, (g6_0 x0).2.2.2.2.2.1.2.1, (g6_0 x0).2.2.2.2.2.1.2.2.1, ()), (g6_0 x0).2.2.2.2.2.2.1, (g6_0 x0).2.2.2.2.2.2.2.1, (g6_0 x0).2.2.2.2.2.2.2.2.1, (g6_0 x0).2.2.2.2.2.2.2.2.2.1, (g6_0 x0).2.2.2.2.2.2.2.2.2.2.1, (g6_0 x0).2.2.2.2.2.2.2.2.2.2.2.1, ()) == g5_0 (g6_0 x0)) = true then false else (if (!g8_0 (((g6_0 x0).1.1, (g6_0 x0).1.2.1, (g6_0 x0).1.2.2.1, ()), (g6_0 x0).2.1, ((g6_0 x0).2.2.1.1, (g6_0 x0).2.2.1.2.1, ()), ((g6_0 x0).2.2.2.1.1, (g6_0 x0).2.2.2.1.2.1, (g6_0 x0).2.2.2.1.2.2.1, (g6_0 x0).2.2.2.1.2.2.2.1, ()), (g6_0 x0).2.2.2.2.1, ((g6_0 x0).2.2.2.2.2.1.1, (g6_0 x0).2.2.2.2.2.1.2.1, (g6_0 x0).2.2.2.2.2.1.2.2.1, ()), (g6_0 x0).2.2.2.2.2.2.1, (g6_0 x0).2.2.2.2.2.2.2.1, (g6_0 x0).2.2.2.2.2.2.2.2.1, (g6_0 x0).2.2.2.2.2.2.2.2.2.1, (g6_0 x0).2.2.2.2.2.2.2.2.2.2.1, (g6_0 x0).2.2.2.2.2.2.2.2.2.2.2.1, ()) (g6_0 x0)) = true then false else true)))
theorem p3_0 (x0 : TyA0) : runF tab ext3 false 27 [] 2000 [] oks3 kds3 tys3 Tryz.f3.results [true] [.code b3] (entE 0 0 sig3 (x0, ())) (entL sig3 (x0, ())) = some ([Dyn.mk Ty.bool true], [], [P4 x0 1048576, decide (g4_0 x0 1048576 < 0) = true]) := by kernel_rfl
theorem p3_1 (x0 : TyA0) : runF tab ext3 false 27 [] 2000 [] oks3 kds3 tys3 Tryz.f3.results [false, true] [.code b3] (entE 0 0 sig3 (x0, ())) (entL sig3 (x0, ())) = some ([Dyn.mk Ty.bool false], [], [P4 x0 1048576, decide (g4_0 x0 1048576 < 0) = false, P6 x0, True, P6 x0, True, (!g7_0 (((g6_0 x0).1.1, (g6_0 x0).1.2.1, (g6_0 x0).1.2.2.1, ()), (g6_0 x0).2.1, ((g6_0 x0).2.2.1.1, (g6_0 x0).2.2.1.2.1, ()), ((g6_0 x0).2.2.2.1.1, (g6_0 x0).2.2.2.1.2.1, (g6_0 x0).2.2.2.1.2.2.1, (g6_0 x0).2.2.2.1.2.2.2.1, ()), (g6_0 x0).2.2.2.2.1, ((g6_0 x0).2.2.2.2.2.1.1, (g6_0 x0).2.2.2.2.2.1.2.1, (g6_0 x0).2.2.2.2.2.1.2.2.1, ()), (g6_0 x0).2.2.2.2.2.2.1, (g6_0 x0).2.2.2.2.2.2.2.1, (g6_0 x0).2.2.2.2.2.2.2.2.1, (g6_0 x0).2.2.2.2.2.2.2.2.2.1, (g6_0 x0).2.2.2.2.2.2.2.2.2.2.1, (g6_0 x0).2.2.2.2.2.2.2.2.2.2.2.1, ()) == g5_0 (g6_0 x0)) = true]) := by kernel_rfl
theorem p3_2 (x0 : TyA0) : runF tab ext3 false 27 [] 2000 [] oks3 kds3 tys3 Tryz.f3.results [false, false, true] [.code b3] (entE 0 0 sig3 (x0, ())) (entL sig3 (x0, ())) = some ([Dyn.mk Ty.bool false], [], [P4 x0 1048576, decide (g4_0 x0 1048576 < 0) = false, P6 x0, True, P6 x0, True, (!g7_0 (((g6_0 x0).1.1, (g6_0 x0).1.2.1, (g6_0 x0).1.2.2.1, ()), (g6_0 x0).2.1, ((g6_0 x0).2.2.1.1, (g6_0 x0).2.2.1.2.1, ()), ((g6_0 x0).2.2.2.1.1, (g6_0 x0).2.2.2.1.2.1, (g6_0 x0).2.2.2.1.2.2.1, (g6_0 x0).2.2.2.1.2.2.2.1, ()), (g6_0 x0).2.2.2.2.1, ((g6_0 x0).2.2.2.2.2.1.1, (g6_0 x0).2.2.2.2.2.1.2.1, (g6_0 x0).2.2.2.2.2.1.2.2.1, ()), (g6_0 x0).2.2.2.2.2.2.1, (g6_0 x0).2.2.2.2.2.2.2.1, (g6_0 x0).2.2.2.2.2.2.2.2.1, (g6_0 x0).2.2.2.2.2.2.2.2.2.1, (g6_0 x0).2.2.2.2.2.2.2.2.2.2.1, (g6_0 x0).2.2.2.2.2.2.2.2.2.2.2.1, ()) == g5_0 (g6_0 x0)) = false, P6 x0, True, (!g8_0 (((g6_0 x0).1.1, (g6_0 x0).1.2.1, (g6_0 x0).1.2.2.1, ()), (g6_0 x0).2.1, ((g6_0 x0).2.2.1.1, (g6_0 x0).2.2.1.2.1, ()), ((g6_0 x0).2.2.2.1.1, (g6_0 x0).2.2.2.1.2.1, (g6_0 x0).2.2.2.1.2.2.1, (g6_0 x0).2.2.2.1.2.2.2.1, ()), (g6_0 x0).2.2.2.2.1, ((g6_0 x0).2.2.2.2.2.1.1, (g6_0 x0).2.2.2.2.2.1.2.1, (g6_0 x0).2.2.2.2.2.1.2.2.1, ()), (g6_0 x0).2.2.2.2.2.2.1, (g6_0 x0).2.2.2.2.2.2.2.1, (g6_0 x0).2.2.2.2.2.2.2.2.1, (g6_0 x0).2.2.2.2.2.2.2.2.2.1, (g6_0 x0).2.2.2.2.2.2.2.2.2.2.1, (g6_0 x0).2.2.2.2.2.2.2.2.2.2.2.1, ()) (g6_0 x0)) = true]) := by kernel_rfl
theorem p3_3 (x0 : TyA0) : runF tab ext3 false 27 [] 2000 [] oks3 kds3 tys3 Tryz.f3.results [false, false, false] [.code b3] (entE 0 0 sig3 (x0, ())) (entL sig3 (x0, ())) = some ([Dyn.mk Ty.bool true], [], [P4 x0 1048576, decide (g4_0 x0 1048576 < 0) = false, P6 x0, True, P6 x0, True, (!g7_0 (((g6_0 x0).1.1, (g6_0 x0).1.2.1, (g6_0 x0).1.2.2.1, ()), (g6_0 x0).2.1, ((g6_0 x0).2.2.1.1, (g6_0 x0).2.2.1.2.1, ()), ((g6_0 x0).2.2.2.1.1, (g6_0 x0).2.2.2.1.2.1, (g6_0 x0).2.2.2.1.2.2.1, (g6_0 x0).2.2.2.1.2.2.2.1, ()), (g6_0 x0).2.2.2.2.1, ((g6_0 x0).2.2.2.2.2.1.1, (g6_0 x0).2.2.2.2.2.1.2.1, (g6_0 x0).2.2.2.2.2.1.2.2.1, ()), (g6_0 x0).2.2.2.2.2.2.1, (g6_0 x0).2.2.2.2.2.2.2.1, (g6_0 x0).2.2.2.2.2.2.2.2.1, (g6_0 x0).2.2.2.2.2.2.2.2.2.1, (g6_0 x0).2.2.2.2.2.2.2.2.2.2.1, (g6_0 x0).2.2.2.2.2.2.2.2.2.2.2.1, ()) == g5_0 (g6_0 x0)) = false, P6 x0, True, (!g8_0 (((g6_0 x0).1.1, (g6_0 x0).1.2.1, (g6_0 x0).1.2.2.1, ()), (g6_0 x0).2.1, ((g6_0 x0).2.2.1.1, (g6_0 x0).2.2.1.2.1, ()), ((g6_0 x0).2.2.2.1.1, (g6_0 x0).2.2.2.1.2.1, (g6_0 x0).2.2.2.1.2.2.1, (g6_0 x0).2.2.2.1.2.2.2.1, ()), (g6_0 x0).2.2.2.2.1, ((g6_0 x0).2.2.2.2.2.1.1, (g6_0 x0).2.2.2.2.2.1.2.1, (g6_0 x0).2.2.2.2.2.1.2.2.1, ()), (g6_0 x0).2.2.2.2.2.2.1, (g6_0 x0).2.2.2.2.2.2.2.1, (g6_0 x0).2.2.2.2.2.2.2.2.1, (g6_0 x0).2.2.2.2.2.2.2.2.2.1, (g6_0 x0).2.2.2.2.2.2.2.2.2.2.1, (g6_0 x0).2.2.2.2.2.2.2.2.2.2.2.1, ()) (g6_0 x0)) = false]) := by kernel_rfl
theorem at3 (x0 : TyA0) (h : P3 x0) (K : Ctx) (q : Nat → Value) : AtV Tryz.prog 3 (PostR kds3 oks3 [⟨Ty.bool, g3_0 x0⟩] [] [] q K) 27 K q [] [.code b3] (entE 0 0 sig3 (x0, ())) (entL sig3 (x0, ())) := by
  unfold P3 at h
  unfold g3_0
  obtain ⟨s0, h⟩ := h
  by_cases b0 : (decide (g4_0 x0 1048576 < 0)) = true
  · try simp only [if_pos b0] at h ⊢
    exact AtV.fin Tryz.func3 tabOk ext3Ok mixed (p3_0 x0) ⟨s0, b0, trivial⟩
  · try simp only [if_neg b0] at h ⊢
    replace b0 := Bool.eq_false_iff.2 b0
    obtain ⟨s1, h⟩ := h
    obtain ⟨s2, h⟩ := h
    by_cases b1 : (!g7_0 (((g6_0 x0).1.1, (g6_0 x0).1.2.1, (g6_0 x0).1.2.2.1, ()), (g6_0 x0).2.1, ((g6_0 x0).2.2.1.1, (g6_0 x0).2.2.1.2.1, ()), ((g6_0 x0).2.2.2.1.1, (g6_0 x0).2.2.2.1.2.1, (g6_0 x0).2.2.2.1.2.2.1, (g6_0 x0).2.2.2.1.2.2.2.1, ()), (g6_0 x0).2.2.2.2.1, ((g6_0 x0).2.2.2.2.2.1.1, (g6_0 x0).2.2.2.2.2.1.2.1, (g6_0 x0).2.2.2.2.2.1.2.2.1, ()), (g6_0 x0).2.2.2.2.2.2.1, (g6_0 x0).2.2.2.2.2.2.2.1, (g6_0 x0).2.2.2.2.2.2.2.2.1, (g6_0 x0).2.2.2.2.2.2.2.2.2.1, (g6_0 x0).2.2.2.2.2.2.2.2.2.2.1, (g6_0 x0).2.2.2.2.2.2.2.2.2.2.2.1, ()) == g5_0 (g6_0 x0)) = true
    · try simp only [if_pos b1] at h ⊢
      exact AtV.fin Tryz.func3 tabOk ext3Ok mixed (p3_1 x0) ⟨s0, b0, s1, trivial, s2, trivial, b1, trivial⟩
    · try simp only [if_neg b1] at h ⊢
      replace b1 := Bool.eq_false_iff.2 b1
      obtain ⟨s3, h⟩ := h
      by_cases b2 : (!g8_0 (((g6_0 x0).1.1, (g6_0 x0).1.2.1, (g6_0 x0).1.2.2.1, ()), (g6_0 x0).2.1, ((g6_0 x0).2.2.1.1, (g6_0 x0).2.2.1.2.1, ()), ((g6_0 x0).2.2.2.1.1, (g6_0 x0).2.2.2.1.2.1, (g6_0 x0).2.2.2.1.2.2.1, (g6_0 x0).2.2.2.1.2.2.2.1, ()), (g6_0 x0).2.2.2.2.1, ((g6_0 x0).2.2.2.2.2.1.1, (g6_0 x0).2.2.2.2.2.1.2.1, (g6_0 x0).2.2.2.2.2.1.2.2.1, ()), (g6_0 x0).2.2.2.2.2.2.1, (g6_0 x0).2.2.2.2.2.2.2.1, (g6_0 x0).2.2.2.2.2.2.2.2.1, (g6_0 x0).2.2.2.2.2.2.2.2.2.1, (g6_0 x0).2.2.2.2.2.2.2.2.2.2.1, (g6_0 x0).2.2.2.2.2.2.2.2.2.2.2.1, ()) (g6_0 x0)) = true
      · try simp only [if_pos b2] at h ⊢
        exact AtV.fin Tryz.func3 tabOk ext3Ok mixed (p3_2 x0) ⟨s0, b0, s1, trivial, s2, trivial, b1, s3, trivial, b2, trivial⟩
      · try simp only [if_neg b2] at h ⊢
        replace b2 := Bool.eq_false_iff.2 b2
        exact AtV.fin Tryz.func3 tabOk ext3Ok mixed (p3_3 x0) ⟨s0, b0, s1, trivial, s2, trivial, b1, s3, trivial, b2, trivial⟩

def S3 : Am.Spec := { sig := sig3, pre := fun ⟨x0, _⟩ => P3 x0, res := fun ⟨x0, _⟩ => [⟨Ty.bool, g3_0 x0⟩], kds := kds3 }
theorem con3 : Contract Tryz.prog 3 S3 := contract_of Tryz.func3 hb3 (Nat.le_of_ble_eq_true (by kernel_rfl)) (fun ⟨x0, _⟩ h _ K q => at3 x0 h K q)


end
end Go.Proofs.YthlhnglkechkaaaGreatDoor

/- A law that says how functions of the program and of the specification hang together. -/
set_option linter.unusedVariables false
set_option linter.unusedSimpArgs false
set_option maxRecDepth 100000
namespace Go.Proofs.YthlhnglkechkaaaGreatDoor
open Go Go.Am Go.Proofs
theorem szs_Section (xs : List TyB3) (l : Int) (h0 : 0 ≤ l) (hi : l ≤ 1048576) (hw : Wf (.sl (.cons (.int .i64) (.cons (.int .i64) .unit))) xs) : P41 xs l ∧ (¬ g41_0 xs l < 0 → g41_0 xs l ≤ l - xs.length) := by
  have hi' : InR .i64 l := by rw [i64_iff]; omega
  have hm : xs.length ≤ 9223372036854775807 := hw.1
  refine ⟨⟨by rw [i64_iff]; omega, trivial⟩, fun hg => (g41_le xs l h0 hi' hw hg).2⟩

theorem szs_Group (xs : List TyB1) (l : Int) (h0 : 0 ≤ l) (hi : l ≤ 1048576) (hw : Wf (.sl (.cons .str (.cons (.int .i64) (.cons (.int .i64) (.cons (.int .i64) .unit))))) xs) : P10 xs l ∧ (¬ g10_0 xs l < 0 → g10_0 xs l ≤ l - xs.length) := by
  have hi' : InR .i64 l := by rw [i64_iff]; omega
  exact ⟨h0, fun hg => g10_le xs l h0 hi' hw hg⟩

theorem szs_Check (xs : List TyB0) (l : Int) (h0 : 0 ≤ l) (hi : l ≤ 1048576) (hw : Wf (.sl (.cons .str (.cons (.int .i64) (.cons (.int .i64) (.cons (.int .i64) (.cons (.int .i64) .unit)))))) xs) : P11 xs l ∧ (¬ g11_0 xs l < 0 → g11_0 xs l ≤ l - xs.length) := by
  have hi' : InR .i64 l := by rw [i64_iff]; omega
  exact ⟨h0, fun hg => g11_le xs l h0 hi' hw hg⟩

theorem szs_Ride (xs : List TyB3) (l : Int) (h0 : 0 ≤ l) (hi : l ≤ 1048576) (hw : Wf (.sl (.cons (.int .i64) (.cons (.int .i64) .unit))) xs) : P12 xs l ∧ (¬ g12_0 xs l < 0 → g12_0 xs l ≤ l - xs.length) := by
  have hi' : InR .i64 l := by rw [i64_iff]; omega
  have hm : xs.length ≤ 9223372036854775807 := hw.1
  refine ⟨⟨by rw [i64_iff]; omega, trivial⟩, fun hg => (g12_le xs l h0 hi' hw hg).2⟩

theorem szs_Line (xs : List TyB2) (l : Int) (h0 : 0 ≤ l) (hi : l ≤ 1048576) (hw : Wf (.sl (.cons (.int .i64) (.cons (.int .i64) (.cons .str (.cons (.int .i64) .unit))))) xs) : P13 xs l ∧ (¬ g13_0 xs l < 0 → g13_0 xs l ≤ l - xs.length) := by
  have hi' : InR .i64 l := by rw [i64_iff]; omega
  exact ⟨h0, fun hg => g13_le xs l h0 hi' hw hg⟩

theorem szs_Track (x : List TyB3 × Int × Int × Unit) (l : Int) (h0 : 0 ≤ l) (hi : l ≤ 1048576) (hw : Wf (.sl (.cons (.int .i64) (.cons (.int .i64) .unit))) x.1) : P9 x l ∧ (¬ g9_0 x l < 0 → g9_0 x l ≤ l - x.1.length) := by
  obtain ⟨p, q⟩ := szs_Section x.1 l h0 hi hw
  unfold P9 g9_0
  by_cases c : g41_0 x.1 l < 0
  · simp only [c, p, decide_true, if_true, and_true, true_and]
    try exact ⟨trivial, fun h => absurd (show (-1 : Int) < 0 by decide) h⟩
    try exact fun h => absurd (show (-1 : Int) < 0 by decide) h
  · simp only [c, p, decide_false, Bool.false_eq_true, if_false, and_true, true_and]
    try exact ⟨trivial, fun h => q h⟩
    try exact fun h => q h
    try exact fun _ => q c

theorem sz_works (x : (TyA0)) (l : Int) (h0 : 0 ≤ l) (hi : l ≤ 1048576) (hw : Wf (.cons (.cons (.sl (.cons (.int .i64) (.cons (.int .i64) .unit))) (.cons (.int .i64) (.cons (.int .i64) .unit))) (.cons (.int .i64) (.cons (.cons (.int .i64) (.cons (.int .i64) .unit)) (.cons (.cons (.int .i64) (.cons (.int .i64) (.cons (.int .i64) (.cons (.int .i64) .unit)))) (.cons (.sl (.cons .str (.cons (.int .i64) (.cons (.int .i64) (.cons (.int .i64) .unit))))) (.cons (.cons (.int .i64) (.cons (.int .i64) (.cons (.int .i64) .unit))) (.cons (.sl (.cons .str (.cons (.int .i64) (.cons (.int .i64) (.cons (.int .i64) (.cons (.int .i64) .unit)))))) (.cons (.int .i64) (.cons (.int .i64) (.cons (.sl (.cons (.int .i64) (.cons (.int .i64) .unit))) (.cons (.int .i64) (.cons (.sl (.cons (.int .i64) (.cons (.int .i64) (.cons .str (.cons (.int .i64) .unit))))) .unit)))))))))))) x) : P4 x l ∧ (¬ g4_0 x l < 0 → 0 ≤ g4_0 x l ∧ g4_0 x l ≤ l ∧ (x.1.1.length : Int) ≤ l ∧ (x.2.2.2.2.1.length : Int) ≤ l ∧ (x.2.2.2.2.2.2.1.length : Int) ≤ l ∧ (x.2.2.2.2.2.2.2.2.2.1.length : Int) ≤ l ∧ (x.2.2.2.2.2.2.2.2.2.2.2.1.length : Int) ≤ l) := by
  unfold P4 g4_0
  obtain ⟨p0, q0⟩ := szs_Track x.1 l (by omega) (by omega) hw.1.1
  by_cases c0 : (g9_0 x.1 l) < 0
  · simp only [c0, p0, decide_true, decide_false, Bool.false_eq_true, if_true, if_false, and_true, true_and]
    try exact ⟨trivial, fun h => absurd (show (-1 : Int) < 0 by decide) h⟩
    try exact fun h => absurd (show (-1 : Int) < 0 by decide) h
  have r0 := q0 c0
  obtain ⟨p1, q1⟩ := szs_Group x.2.2.2.2.1 (g9_0 x.1 l) (by omega) (by omega) hw.2.2.2.2.1
  by_cases c1 : (g10_0 x.2.2.2.2.1 (g9_0 x.1 l)) < 0
  · simp only [c0, p0, c1, p1, decide_true, decide_false, Bool.false_eq_true, if_true, if_false, and_true, true_and]
    try exact ⟨trivial, fun h => absurd (show (-1 : Int) < 0 by decide) h⟩
    try exact fun h => absurd (show (-1 : Int) < 0 by decide) h
  have r1 := q1 c1
  obtain ⟨p2, q2⟩ := szs_Check x.2.2.2.2.2.2.1 (g10_0 x.2.2.2.2.1 (g9_0 x.1 l)) (by omega) (by omega) hw.2.2.2.2.2.2.1
  by_cases c2 : (g11_0 x.2.2.2.2.2.2.1 (g10_0 x.2.2.2.2.1 (g9_0 x.1 l))) < 0
  · simp only [c0, p0, c1, p1, c2, p2, decide_true, decide_false, Bool.false_eq_true, if_true, if_false, and_true, true_and]
    try exact ⟨trivial, fun h => absurd (show (-1 : Int) < 0 by decide) h⟩
    try exact fun h => absurd (show (-1 : Int) < 0 by decide) h
  have r2 := q2 c2
  obtain ⟨p3, q3⟩ := szs_Ride x.2.2.2.2.2.2.2.2.2.1 (g11_0 x.2.2.2.2.2.2.1 (g10_0 x.2.2.2.2.1 (g9_0 x.1 l))) (by omega) (by omega) hw.2.2.2.2.2.2.2.2.2.1
  by_cases c3 : (g12_0 x.2.2.2.2.2.2.2.2.2.1 (g11_0 x.2.2.2.2.2.2.1 (g10_0 x.2.2.2.2.1 (g9_0 x.1 l)))) < 0
  · simp only [c0, p0, c1, p1, c2, p2, c3, p3, decide_true, decide_false, Bool.false_eq_true, if_true, if_false, and_true, true_and]
    try exact ⟨trivial, fun h => absurd (show (-1 : Int) < 0 by decide) h⟩
    try exact fun h => absurd (show (-1 : Int) < 0 by decide) h
  have r3 := q3 c3
  obtain ⟨p4, q4⟩ := szs_Line x.2.2.2.2.2.2.2.2.2.2.2.1 (g12_0 x.2.2.2.2.2.2.2.2.2.1 (g11_0 x.2.2.2.2.2.2.1 (g10_0 x.2.2.2.2.1 (g9_0 x.1 l)))) (by omega) (by omega) hw.2.2.2.2.2.2.2.2.2.2.2.1
  by_cases c4 : (g13_0 x.2.2.2.2.2.2.2.2.2.2.2.1 (g12_0 x.2.2.2.2.2.2.2.2.2.1 (g11_0 x.2.2.2.2.2.2.1 (g10_0 x.2.2.2.2.1 (g9_0 x.1 l))))) < 0
  · simp only [c0, p0, c1, p1, c2, p2, c3, p3, c4, p4, decide_true, decide_false, Bool.false_eq_true, if_true, if_false, and_true, true_and]
    try exact ⟨trivial, fun h => absurd (show (-1 : Int) < 0 by decide) h⟩
    try exact fun h => absurd (show (-1 : Int) < 0 by decide) h
  have r4 := q4 c4
  simp only [c0, p0, c1, p1, c2, p2, c3, p3, c4, p4, decide_false, Bool.false_eq_true, if_false, and_true, true_and]
  intro _
  omega

theorem to_works (x : (TyA0)) (h : (x.1.1.length : Int) ≤ 1048576 ∧ (x.2.2.2.2.1.length : Int) ≤ 1048576 ∧ (x.2.2.2.2.2.2.1.length : Int) ≤ 1048576 ∧ (x.2.2.2.2.2.2.2.2.2.1.length : Int) ≤ 1048576 ∧ (x.2.2.2.2.2.2.2.2.2.2.2.1.length : Int) ≤ 1048576) : P6 x ∧ g6_0 x = x := by
  obtain ⟨l0, l1, l2, l3, l4⟩ := h
  refine ⟨?_, rfl⟩
  unfold P6 P15 P54 P18 P20 P21 P22
  refine ⟨⟨by omega, trivial⟩, by omega, by omega, by omega, by omega, trivial⟩

theorem eq_works (x : (TyA0)) : g8_0 x x = true := by
  simp [g8_0, g33_0, g34_0, g35_0, g37_0, g72_0, g36_0, g38_0, g39_0, g40_0]

end Go.Proofs.YthlhnglkechkaaaGreatDoor

/- A law that says how functions of the program and of the specification hang together. -/
set_option linter.unusedVariables false
set_option linter.unusedSimpArgs false
set_option maxRecDepth 100000
namespace Go.Proofs.YthlhnglkechkaaaGreatDoor
open Go Go.Am Go.Proofs
theorem name_eq (s : ByteArray) : g88_0 s = g95_0 s := by
  have hs : ∀ c, g103_0 c = (decide (97 ≤ c) && decide (c ≤ 122)) := fun c => by
    unfold g103_0
    by_cases h1 : (97 : Int) ≤ c <;> simp [h1]
  have hd : ∀ c, g104_0 c = (decide (48 ≤ c) && decide (c ≤ 57)) := fun c => by
    unfold g104_0
    by_cases h1 : (48 : Int) ≤ c <;> simp [h1]
  unfold g88_0 g95_0
  have hl := bytesOf_length s
  by_cases h1 : 1 ≤ s.size
  · cases hb : bytesOf s with
    | nil => rw [hb] at hl; simp at hl; omega
    | cons c r =>
      have hr : allI ok88 1 r = r.all fun b => g103_0 b || g104_0 b := by
        rw [← allI_plain (fun b => g103_0 b || g104_0 b) r 1]
        refine allI_congr r 1 fun j x hj => ?_
        have : (j == 0) = false := by simp; omega
        simp only [ok88, this, hs, hd, Bool.not_false, Bool.true_and]
      have h0 : ok88 0 c = g103_0 c := by simp [ok88, hs]
      simp only [allI, hr, h0, List.all_cons, List.getD_cons_zero]
      cases g103_0 c <;> simp
  · simp [h1]


end Go.Proofs.YthlhnglkechkaaaGreatDoor

/- A law that says how functions of the program and of the specification hang together. -/
set_option linter.unusedVariables false
set_option linter.unusedSimpArgs false
set_option maxRecDepth 100000
namespace Go.Proofs.YthlhnglkechkaaaGreatDoor
open Go Go.Am Go.Proofs

theorem bl_asym {x y : List UInt8} (h : Op.bytesLess x y = true) : Op.bytesLess y x = false := by
  cases h2 : Op.bytesLess y x with
  | false => rfl
  | true =>
    have := bl_trans x y x h h2
    rw [bl_irrefl] at this
    cases this

theorem le_not (a b : ByteArray) : (!(Op.bytesLess (ByteArray.toList a) (ByteArray.toList b) || ByteArray.toList a == ByteArray.toList b)) = Op.bytesLess (ByteArray.toList b) (ByteArray.toList a) := by
  generalize ByteArray.toList a = x
  generalize ByteArray.toList b = y
  cases h1 : Op.bytesLess x y with
  | true => rw [bl_asym h1]; rfl
  | false =>
    cases h2 : (x == y) with
    | true =>
      have : x = y := by simpa using h2
      subst this
      rw [bl_irrefl]; rfl
    | false =>
      cases h3 : Op.bytesLess y x with
      | true => rfl
      | false =>
        have := bl_tri x y h1 h3
        subst this
        simp at h2

end Go.Proofs.YthlhnglkechkaaaGreatDoor

/- A law that says how functions of the program and of the specification hang together. -/
set_option linter.unusedVariables false
set_option linter.unusedSimpArgs false
set_option maxRecDepth 100000
namespace Go.Proofs.YthlhnglkechkaaaGreatDoor
open Go Go.Am Go.Proofs

theorem one_Group (x : TyB1) : g61_0 x = g79_0 x := by
  unfold g61_0 g79_0
  rw [name_eq]
  rfl

theorem list_Group (xs : List TyB1) : g27_0 xs = g49_0 xs := by
  unfold g27_0 g49_0
  congr 1
  refine allI_congr xs 0 fun j y _ => ?_
  unfold ok27 ok49
  rw [one_Group, le_not]

end Go.Proofs.YthlhnglkechkaaaGreatDoor

/- A law that says how functions of the program and of the specification hang together. -/
set_option linter.unusedVariables false
set_option linter.unusedSimpArgs false
set_option maxRecDepth 100000
namespace Go.Proofs.YthlhnglkechkaaaGreatDoor
open Go Go.Am Go.Proofs

theorem one_Check (x : TyB0) : g89_0 x = g96_0 x := by
  unfold g89_0 g96_0
  rw [name_eq]
  rfl

theorem list_Check (xs : List TyB0) : g63_0 xs = g80_0 xs := by
  unfold g63_0 g80_0
  congr 1
  refine allI_congr xs 0 fun j y _ => ?_
  unfold ok63 ok80
  rw [one_Check, le_not]

end Go.Proofs.YthlhnglkechkaaaGreatDoor

/- A law that says how functions of the program and of the specification hang together. -/
set_option linter.unusedVariables false
set_option linter.unusedSimpArgs false
set_option maxRecDepth 100000
namespace Go.Proofs.YthlhnglkechkaaaGreatDoor
open Go Go.Am Go.Proofs

theorem word_eq (w : ByteArray) : g102_0 w = g106_0 w := by
  have hb : ∀ b : Int, (!g110_0 b) = ok106 b := fun b => by
    unfold g110_0 ok106 g104_0
    by_cases h1 : b < 97 <;> by_cases h2 : b > 122 <;> by_cases h3 : b < 48 <;> by_cases h4 : b > 57 <;>
      first
        | omega
        | (have e1 : (97 ≤ b) ↔ ¬ b < 97 := by omega
           have e2 : (b ≤ 122) ↔ ¬ b > 122 := by omega
           have e3 : (b ≥ 48) ↔ ¬ b < 48 := by omega
           have e4 : (b ≤ 57) ↔ ¬ b > 57 := by omega
           simp [e1, e2, e3, e4, h1, h2, h3, h4])
  have ha : (!g109c110_0 (bytesOf w)) = (bytesOf w).all ok106 := by
    unfold g109c110_0
    rw [any114c110]
    induction bytesOf w with
    | nil => rfl
    | cons b r ih => rw [List.any_cons, List.all_cons, Bool.not_or, ih, hb]
  unfold g102_0 g106_0
  rw [ha]
  by_cases h : w = ByteArray.mk #[]
  · subst h
    have h1 : (ByteArray.toList (ByteArray.mk #[]) == ByteArray.toList (ByteArray.mk #[])) = true := beq_self_eq_true _
    have h2 : decide (((ByteArray.mk #[]).size : Int) > 0) = false := by decide
    rw [h1, h2, Bool.and_false]
    rfl
  · have h1 : (ByteArray.toList w == ByteArray.toList (ByteArray.mk #[])) = false := by
      rw [Bool.eq_false_iff]; exact fun hh => h ((bytes_eq _ _).1 hh)
    have h2 : decide ((w.size : Int) > 0) = true := by
      refine decide_eq_true ?_
      rcases Nat.lt_or_ge 0 w.size with h3 | h3
      · omega
      · exact absurd (bytesOf_inj (s := w) (t := ByteArray.mk #[]) (List.eq_nil_of_length_eq_zero (by rw [bytesOf_length]; omega))) h
    rw [h1, h2, Bool.and_true]
    rfl

theorem text_eq (s : ByteArray) : g92_0 s = g98_0 s := by
  have e : g100_0 s (ByteArray.mk #[32]) = g105_0 s 32 := splitB_one 32 s
  have hw : ∀ w, (!g101_0 w) = g106_0 w := fun w => by
    unfold g101_0
    rw [Bool.not_not, word_eq]
  have ha : ∀ l : List ByteArray, (!g99c101_0 l) = l.all g106_0 := fun l => by
    unfold g99c101_0
    rw [any107c101]
    induction l with
    | nil => rfl
    | cons b r ih => rw [List.any_cons, List.all_cons, Bool.not_or, ih, hw]
  unfold g92_0 g98_0
  rw [e, ha]
  by_cases h0 : s.size = 0
  · have hn : s.data.toList = [] := List.eq_nil_of_length_eq_zero h0
    have es : g105_0 s 32 = [⟨⟨[]⟩⟩] := by
      show bss (splitC (32 : UInt8) s.data.toList) = _
      rw [hn]; rfl
    rw [es]
    have ew : g106_0 ⟨⟨[]⟩⟩ = false := rfl
    simp [h0, ew]
  · by_cases h1 : (s.size : Int) ≤ 40
    · have h2 : ¬ (s.size : Int) > 40 := by omega
      have h3 : (((s.size : Nat) : Int) == 0) = false := by rw [beq_eq_false_iff_ne]; omega
      rw [decide_eq_true h1, decide_eq_false h2, h3]
      rfl
    · have h2 : (s.size : Int) > 40 := by omega
      rw [decide_eq_false h1, decide_eq_true h2]
      simp

theorem one_Line (x : Int × Int × ByteArray × Int × Unit) : g70_0 x = g86_0 x := by
  unfold g70_0 g86_0
  rw [text_eq]
  rfl

theorem list_Line (xs : List TyB2) : g32_0 xs = g53_0 xs := by
  unfold g32_0 g53_0
  congr 1
  refine allI_congr xs 0 fun j y _ => ?_
  unfold ok32 ok53
  rw [one_Line]
  rfl

end Go.Proofs.YthlhnglkechkaaaGreatDoor

/- A law that says how functions of the program and of the specification hang together. -/
set_option linter.unusedVariables false
set_option linter.unusedSimpArgs false
set_option maxRecDepth 100000
namespace Go.Proofs.YthlhnglkechkaaaGreatDoor
open Go Go.Am Go.Proofs

theorem track_eq (x : List TyB3 × Int × Int × Unit) : g23_0 x = g45_0 x := rfl
theorem brake_eq (x : Int × Int × Unit) : g25_0 x = g47_0 x := rfl
theorem profile_eq (x : Int × Int × Int × Int × Unit) : g26_0 x = g48_0 x := rfl
theorem room_eq (x : Int × Int × Int × Unit) : g28_0 x = g50_0 x := rfl
theorem list_Ride (x : List TyB3) : g30_0 x = g84_0 x := rfl

theorem insp_eq (xs : List TyB0) (d r : Int) : g29_0 xs d r 0 = g51_0 xs d r := by
  have h0 : g64_0 0 = true := rfl
  have ha : g66c67_0 xs d r = !xs.all (q51 d r) := by
    unfold g66c67_0
    rw [any90c67]
    induction xs with
    | nil => rfl
    | cons x l ih =>
      have hx : g67_0 x d r = !q51 d r x := by
        unfold g67_0 q51 g83_0
        by_cases h1 : x.2.2.2.1 > d
        · have h1' : ¬ x.2.2.2.1 ≤ d := by omega
          simp [h1, h1']
        · have h1' : x.2.2.2.1 ≤ d := by omega
          by_cases h2 : x.2.2.2.2.1 > r
          · have h2' : ¬ x.2.2.2.2.1 ≤ r := by omega
            simp [h1, h1', h2, h2']
          · have h2' : x.2.2.2.2.1 ≤ r := by omega
            simp [h1, h1', h2, h2']
      rw [List.any_cons, List.all_cons, Bool.not_and, ih, hx]
  unfold g29_0 g51_0
  rw [ha, list_Check, h0]
  have e1 : g65_0 d = g81_0 d := rfl
  have e2 : g64_0 r = g82_0 r := rfl
  rw [e1, e2]
  cases g80_0 xs <;> cases g81_0 d <;> cases g82_0 r <;> cases xs.all (q51 d r) <;> rfl

theorem ask_ride (xs : List TyB3) (t : Int) : (g52_0 xs t == 0) = (g84_0 xs && g31_0 t) := by
  unfold g52_0
  have e : g31_0 t = g85_0 t := rfl
  rw [e]
  cases g84_0 xs <;> cases g85_0 t <;> rfl

theorem valid_works (x : (TyA0)) : g7_0 x = g14_0 x := by
  unfold g7_0 g14_0
  rw [track_eq, brake_eq, profile_eq, list_Group, room_eq, insp_eq, list_Ride, list_Line, ask_ride]
  have e : g24_0 x.2.1 = g46_0 x.2.1 := rfl
  rw [e]
  generalize g51_0 x.2.2.2.2.2.2.1 x.2.2.2.2.2.2.2.1 x.2.2.2.2.2.2.2.2.1 = n
  cases g45_0 x.1 <;> cases g46_0 x.2.1 <;> cases g47_0 x.2.2.1 <;> simp
  cases g48_0 x.2.2.2.1 <;> cases g49_0 x.2.2.2.2.1 <;> cases g50_0 x.2.2.2.2.2.1 <;> simp
  by_cases hn : n = 0
  · simp only [hn, if_true]
    simp [Bool.and_assoc]
  · simp [hn]

theorem pre_works (x : (TyA0)) : P7 x = True ∧ P5 x = True := by
  refine ⟨?_, ?_⟩ <;> exact eq_true (by trivial)

end Go.Proofs.YthlhnglkechkaaaGreatDoor

/- The plain law of FnExactValidWorks. -/
set_option linter.unusedVariables false
set_option linter.unusedSimpArgs false
set_option maxRecDepth 100000
namespace Go.Proofs.YthlhnglkechkaaaGreatDoor
open Go Go.Am Go.Proofs

theorem law3 (x : (TyA0)) (hx : Wf (.cons (.cons (.sl (.cons (.int .i64) (.cons (.int .i64) .unit))) (.cons (.int .i64) (.cons (.int .i64) .unit))) (.cons (.int .i64) (.cons (.cons (.int .i64) (.cons (.int .i64) .unit)) (.cons (.cons (.int .i64) (.cons (.int .i64) (.cons (.int .i64) (.cons (.int .i64) .unit)))) (.cons (.sl (.cons .str (.cons (.int .i64) (.cons (.int .i64) (.cons (.int .i64) .unit))))) (.cons (.cons (.int .i64) (.cons (.int .i64) (.cons (.int .i64) .unit))) (.cons (.sl (.cons .str (.cons (.int .i64) (.cons (.int .i64) (.cons (.int .i64) (.cons (.int .i64) .unit)))))) (.cons (.int .i64) (.cons (.int .i64) (.cons (.sl (.cons (.int .i64) (.cons (.int .i64) .unit))) (.cons (.int .i64) (.cons (.sl (.cons (.int .i64) (.cons (.int .i64) (.cons .str (.cons (.int .i64) .unit))))) .unit)))))))))))) x) : P3 x ∧ g3_0 x = true := by
  obtain ⟨p1, q1⟩ := sz_works x 1048576 (by decide) (by decide) hx
  by_cases c1 : g4_0 x 1048576 < 0
  · unfold P3 g3_0
    simp only [c1, p1, decide_true, if_true, and_self]
  obtain ⟨r1, s1, t1⟩ := q1 c1
  obtain ⟨a1, e1⟩ := to_works x (by omega)
  have f1 := eq_works x
  have k := valid_works x
  have k2 : g5_0 x = g14_0 x := rfl
  have p2 := pre_works x
  unfold P3 g3_0
  clear q1 hx r1 s1 t1
  simp only [e1, c1, p1, a1, f1, k, k2, p2, decide_false, Bool.false_eq_true, if_false, true_and, and_true, Bool.not_true, bne_self_eq_false]
  cases g14_0 x <;> simp

end Go.Proofs.YthlhnglkechkaaaGreatDoor
