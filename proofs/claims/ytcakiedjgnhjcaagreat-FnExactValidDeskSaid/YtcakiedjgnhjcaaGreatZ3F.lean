/- Several texts in one: the functions that this law reaches, and their laws. -/
import Derived.Test.YtcakiedjgnhjcaaGreatZ3A
import Derived.Test.YtcakiedjgnhjcaaGreatZ3B
import Derived.Test.YtcakiedjgnhjcaaGreatZ3C
import Derived.Test.YtcakiedjgnhjcaaGreatZ3D
import Derived.Test.YtcakiedjgnhjcaaGreatZ3E

/- Function 94 (laws.eqBend): its runs between cut points. Written by a program of this repo (gen). -/
set_option linter.unusedVariables false
set_option linter.unusedSimpArgs false
set_option maxRecDepth 100000
namespace Go.Proofs.YtcakiedjgnhjcaaGreat
open Go Go.Am Go.Proofs
noncomputable section
def ext94 : Ext := []
theorem ext94Ok : ExtOk Tryz.prog ext94 := trivial

noncomputable def b94 : Code := bodyOf Tryz.f94
theorem hb94 : Tryz.f94.body = some b94 := by kernel_rfl
def sig94 : List AT := [AT.v (Ty.cons Ty.str (Ty.cons (Ty.int .i64) (Ty.cons (Ty.int .i64) (Ty.cons (Ty.int .i64) Ty.unit)))), AT.v (Ty.cons Ty.str (Ty.cons (Ty.int .i64) (Ty.cons (Ty.int .i64) (Ty.cons (Ty.int .i64) Ty.unit))))]
def tys94 : List Ty := [Ty.bool]
def kds94 : List RK := []
def oks94 : List AT := owns sig94
def P94 (x0 : ByteArray × Int × Int × Int × Unit) (x1 : ByteArray × Int × Int × Int × Unit) : Prop := True
def g94_0 (x0 : ByteArray × Int × Int × Int × Unit) (x1 : ByteArray × Int × Int × Int × Unit) : Bool := (if (!ByteArray.toList x0.1 == ByteArray.toList x1.1) = true then false else (if (x0.2.1 != x1.2.1) = true then false else (if (x0.2.2.1 != x1.2.2.1) = true then false else (if (x0.2.2.2.1 != x1.2.2.2.1) = true then false else true))))
theorem p94_0 (x0 : ByteArray × Int × Int × Int × Unit) (x1 : ByteArray × Int × Int × Int × Unit) : runF tab ext94 false 25 [] 2000 [] oks94 kds94 tys94 Tryz.f94.results [true] [.code b94] (entE 0 0 sig94 (x0, x1, ())) (entL sig94 (x0, x1, ())) = some ([Dyn.mk Ty.bool false], [], [(!ByteArray.toList x0.1 == ByteArray.toList x1.1) = true]) := by kernel_rfl
theorem p94_1 (x0 : ByteArray × Int × Int × Int × Unit) (x1 : ByteArray × Int × Int × Int × Unit) : runF tab ext94 false 25 [] 2000 [] oks94 kds94 tys94 Tryz.f94.results [false, true] [.code b94] (entE 0 0 sig94 (x0, x1, ())) (entL sig94 (x0, x1, ())) = some ([Dyn.mk Ty.bool false], [], [(!ByteArray.toList x0.1 == ByteArray.toList x1.1) = false, (x0.2.1 != x1.2.1) = true]) := by kernel_rfl
theorem p94_2 (x0 : ByteArray × Int × Int × Int × Unit) (x1 : ByteArray × Int × Int × Int × Unit) : runF tab ext94 false 25 [] 2000 [] oks94 kds94 tys94 Tryz.f94.results [false, false, true] [.code b94] (entE 0 0 sig94 (x0, x1, ())) (entL sig94 (x0, x1, ())) = some ([Dyn.mk Ty.bool false], [], [(!ByteArray.toList x0.1 == ByteArray.toList x1.1) = false, (x0.2.1 != x1.2.1) = false, (x0.2.2.1 != x1.2.2.1) = true]) := by kernel_rfl
theorem p94_3 (x0 : ByteArray × Int × Int × Int × Unit) (x1 : ByteArray × Int × Int × Int × Unit) : runF tab ext94 false 25 [] 2000 [] oks94 kds94 tys94 Tryz.f94.results [false, false, false, true] [.code b94] (entE 0 0 sig94 (x0, x1, ())) (entL sig94 (x0, x1, ())) = some ([Dyn.mk Ty.bool false], [], [(!ByteArray.toList x0.1 == ByteArray.toList x1.1) = false, (x0.2.1 != x1.2.1) = false, (x0.2.2.1 != x1.2.2.1) = false, (x0.2.2.2.1 != x1.2.2.2.1) = true]) := by kernel_rfl
theorem p94_4 (x0 : ByteArray × Int × Int × Int × Unit) (x1 : ByteArray × Int × Int × Int × Unit) : runF tab ext94 false 25 [] 2000 [] oks94 kds94 tys94 Tryz.f94.results [false, false, false, false] [.code b94] (entE 0 0 sig94 (x0, x1, ())) (entL sig94 (x0, x1, ())) = some ([Dyn.mk Ty.bool true], [], [(!ByteArray.toList x0.1 == ByteArray.toList x1.1) = false, (x0.2.1 != x1.2.1) = false, (x0.2.2.1 != x1.2.2.1) = false, (x0.2.2.2.1 != x1.2.2.2.1) = false]) := by kernel_rfl
theorem at94 (x0 : ByteArray × Int × Int × Int × Unit) (x1 : ByteArray × Int × Int × Int × Unit) (h : P94 x0 x1) (K : Ctx) (q : Nat → Value) : AtV Tryz.prog 94 (PostR kds94 oks94 [⟨Ty.bool, g94_0 x0 x1⟩] [] [] q K) 25 K q [] [.code b94] (entE 0 0 sig94 (x0, x1, ())) (entL sig94 (x0, x1, ())) := by
  unfold P94 at h
  unfold g94_0
  by_cases b0 : (!ByteArray.toList x0.1 == ByteArray.toList x1.1) = true
  · try simp only [if_pos b0] at h ⊢
    exact AtV.fin Tryz.func94 tabOk ext94Ok mixed (p94_0 x0 x1) ⟨b0, trivial⟩
  · try simp only [if_neg b0] at h ⊢
    replace b0 := Bool.eq_false_iff.2 b0
    by_cases b1 : (x0.2.1 != x1.2.1) = true
    · try simp only [if_pos b1] at h ⊢
      exact AtV.fin Tryz.func94 tabOk ext94Ok mixed (p94_1 x0 x1) ⟨b0, b1, trivial⟩
    · try simp only [if_neg b1] at h ⊢
      replace b1 := Bool.eq_false_iff.2 b1
      by_cases b2 : (x0.2.2.1 != x1.2.2.1) = true
      · try simp only [if_pos b2] at h ⊢
        exact AtV.fin Tryz.func94 tabOk ext94Ok mixed (p94_2 x0 x1) ⟨b0, b1, b2, trivial⟩
      · try simp only [if_neg b2] at h ⊢
        replace b2 := Bool.eq_false_iff.2 b2
        by_cases b3 : (x0.2.2.2.1 != x1.2.2.2.1) = true
        · try simp only [if_pos b3] at h ⊢
          exact AtV.fin Tryz.func94 tabOk ext94Ok mixed (p94_3 x0 x1) ⟨b0, b1, b2, b3, trivial⟩
        · try simp only [if_neg b3] at h ⊢
          replace b3 := Bool.eq_false_iff.2 b3
          exact AtV.fin Tryz.func94 tabOk ext94Ok mixed (p94_4 x0 x1) ⟨b0, b1, b2, b3, trivial⟩

def S94 : Am.Spec := { sig := sig94, pre := fun ⟨x0, x1, _⟩ => P94 x0 x1, res := fun ⟨x0, x1, _⟩ => [⟨Ty.bool, g94_0 x0 x1⟩], kds := kds94 }
theorem con94 : Contract Tryz.prog 94 S94 := contract_of Tryz.func94 hb94 (Nat.le_of_ble_eq_true (by kernel_rfl)) (fun ⟨x0, x1, _⟩ h _ K q => at94 x0 x1 h K q)


theorem eqd94 (x y : TyB0) : g94_0 x y = true ↔ x = y := by
  obtain ⟨a, b, c, d, u⟩ := x
  obtain ⟨a', b', c', d', u'⟩ := y
  unfold g94_0
  simp only [Bool.not_eq_true', bytes_ne, bne_iff_ne, ne_eq, ite_not]
  by_cases h0 : a = a'
  · by_cases h1 : b = b'
    · by_cases h2 : c = c'
      · by_cases h3 : d = d'
        · simp [h0, h1, h2, h3]
        · simp [h0, h1, h2, h3]
      · simp [h0, h1, h2]
    · simp [h0, h1]
  · simp [h0]

end
end Go.Proofs.YtcakiedjgnhjcaaGreat

/- Function 42 (laws.eqBendS): its runs between cut points. Written by a program of this repo (gen). -/
set_option linter.unusedVariables false
set_option linter.unusedSimpArgs false
set_option maxRecDepth 100000
namespace Go.Proofs.YtcakiedjgnhjcaaGreat
open Go Go.Am Go.Proofs
noncomputable section
def ext42 : Ext := [(94, S94)]
theorem call42_94 : Callable Tryz.prog 94 := ⟨Tryz.f94, Tryz.func94, by kernel_rfl, by kernel_rfl⟩
theorem ext42Ok : ExtOk Tryz.prog ext42 := ⟨⟨call42_94, con94⟩, trivial⟩

noncomputable def b42 : Code := bodyOf Tryz.f42
theorem hb42 : Tryz.f42.body = some b42 := by kernel_rfl
def sig42 : List AT := [AT.v (Ty.sl (Ty.cons Ty.str (Ty.cons (Ty.int .i64) (Ty.cons (Ty.int .i64) (Ty.cons (Ty.int .i64) Ty.unit))))), AT.v (Ty.sl (Ty.cons Ty.str (Ty.cons (Ty.int .i64) (Ty.cons (Ty.int .i64) (Ty.cons (Ty.int .i64) Ty.unit)))))]
def tys42 : List Ty := [Ty.bool]
def kds42 : List RK := []
def oks42 : List AT := owns sig42
def E42_4 (v5 : Int) (x0 : List TyB0) (x1 : List TyB0) : Env := [(0, PV.a (Atom.sl (Ty.cons Ty.str (Ty.cons (Ty.int .i64) (Ty.cons (Ty.int .i64) (Ty.cons (Ty.int .i64) Ty.unit)))) x0)), (1, PV.a (Atom.sl (Ty.cons Ty.str (Ty.cons (Ty.int .i64) (Ty.cons (Ty.int .i64) (Ty.cons (Ty.int .i64) Ty.unit)))) x1)), (5, PV.a (Atom.val (Value.int .i64 v5)))]
def L42_4 (v5 : Int) (x0 : List TyB0) (x1 : List TyB0) : Heap := []
mutual
def R42 : Nat → List TyB0 → List TyB0 → List Dyn → Prop
  | 0, _, _, _ => False
  | n + 1, x0, x1, ds => (if ((↑(List.length x0) : Int) != (↑(List.length x1) : Int)) = true then (ds = [Dyn.mk Ty.bool false]) else (R42_4 n (0) (x0) (x1) ds))
def R42_4 : Nat → Int → List TyB0 → List TyB0 → List Dyn → Prop
  | 0, _, _, _, _ => False
  | n + 1, v5, x0, x1, ds => (if (decide (v5 < (↑(List.length x0) : Int))) = true then ((0 ≤ v5) ∧ (v5 < (↑(List.length x0) : Int)) ∧ ((0 ≤ v5) ∧ (v5 < (↑(List.length x1) : Int)) ∧ (if (!g94_0 (List.getD x0 (Int.toNat v5) (ByteArray.empty, 0, 0, 0, ())) (List.getD x1 (Int.toNat v5) (ByteArray.empty, 0, 0, 0, ()))) = true then (ds = [Dyn.mk Ty.bool false]) else ((InR .i64 (v5 + 1)) ∧ (R42_4 n (v5 + 1) (x0) (x1) ds))))) else (ds = [Dyn.mk Ty.bool true]))
end
theorem p42_0 (x0 : List TyB0) (x1 : List TyB0) : runF tab ext42 false 27 [] 2000 [] oks42 kds42 tys42 Tryz.f42.results [true] [.code b42] (entE 0 0 sig42 (x0, x1, ())) (entL sig42 (x0, x1, ())) = some ([Dyn.mk Ty.bool false], [], [((↑(List.length x0) : Int) != (↑(List.length x1) : Int)) = true]) := by kernel_rfl
theorem p42_1 (x0 : List TyB0) (x1 : List TyB0) : Am.runN tab ext42 false 27 [] 2000 [] [] [0, 1, 5] [] [false] [.code b42] (entE 0 0 sig42 (x0, x1, ())) (entL sig42 (x0, x1, ())) = some (cutAt b42 4, E42_4 (0) (x0) (x1), L42_4 (0) (x0) (x1), [((↑(List.length x0) : Int) != (↑(List.length x1) : Int)) = false]) := by kernel_rfl
theorem p42_2 (v5 : Int) (x0 : List TyB0) (x1 : List TyB0) : runF tab ext42 false 27 [] 2000 [] oks42 kds42 tys42 Tryz.f42.results [true, true] (cutAt b42 4) (E42_4 v5 x0 x1) (L42_4 v5 x0 x1) = some ([Dyn.mk Ty.bool false], [], [decide (v5 < (↑(List.length x0) : Int)) = true, 0 ≤ v5, v5 < (↑(List.length x0) : Int), 0 ≤ v5, v5 < (↑(List.length x1) : Int), True, (!g94_0 (List.getD x0 (Int.toNat v5) (ByteArray.empty, 0, 0, 0, ())) (List.getD x1 (Int.toNat v5) (ByteArray.empty, 0, 0, 0, ()))) = true]) := by kernel_rfl
theorem p42_3 (v5 : Int) (x0 : List TyB0) (x1 : List TyB0) : Am.runN tab ext42 false 27 [] 2000 [] [] [0, 1, 5] [] [true, false] (cutAt b42 4) (E42_4 v5 x0 x1) (L42_4 v5 x0 x1) = some (cutAt b42 4, E42_4 (v5 + 1) (x0) (x1), L42_4 (v5 + 1) (x0) (x1), [decide (v5 < (↑(List.length x0) : Int)) = true, 0 ≤ v5, v5 < (↑(List.length x0) : Int), 0 ≤ v5, v5 < (↑(List.length x1) : Int), True, (!g94_0 (List.getD x0 (Int.toNat v5) (ByteArray.empty, 0, 0, 0, ())) (List.getD x1 (Int.toNat v5) (ByteArray.empty, 0, 0, 0, ()))) = false, InR .i64 (v5 + 1)]) := by kernel_rfl
theorem p42_4 (v5 : Int) (x0 : List TyB0) (x1 : List TyB0) : runF tab ext42 false 27 [] 2000 [] oks42 kds42 tys42 Tryz.f42.results [false] (cutAt b42 4) (E42_4 v5 x0 x1) (L42_4 v5 x0 x1) = some ([Dyn.mk Ty.bool true], [], [decide (v5 < (↑(List.length x0) : Int)) = false]) := by kernel_rfl
theorem snd42 : ∀ n, (∀ (x0 : List TyB0) (x1 : List TyB0) ds, R42 n x0 x1 ds → ∀ K q, AtV Tryz.prog 42 (PostR kds42 oks42 ds [] [] q K) 27 K q [] [.code b42] (entE 0 0 sig42 (x0, x1, ())) (entL sig42 (x0, x1, ()))) ∧ (∀ (v5 : Int) (x0 : List TyB0) (x1 : List TyB0) ds, R42_4 n v5 x0 x1 ds → ∀ K q, AtV Tryz.prog 42 (PostR kds42 oks42 ds [] [] q K) 27 K q [] (cutAt b42 4) (E42_4 v5 x0 x1) (L42_4 v5 x0 x1)) := by
  intro n
  induction n with
  | zero => exact ⟨fun _ _ _ h => by simp only [R42] at h, fun _ _ _ _ h => by simp only [R42_4] at h⟩
  | succ n ih =>
  obtain ⟨ih, ih4⟩ := ih
  refine ⟨?_, ?_⟩
  · intro x0 x1 ds h K q
    rw [R42] at h
    by_cases b0 : ((↑(List.length x0) : Int) != (↑(List.length x1) : Int)) = true
    · rw [if_pos b0] at h
      subst h
      exact AtV.fin Tryz.func42 tabOk ext42Ok mixed (p42_0 x0 x1) ⟨b0, trivial⟩
    · rw [if_neg b0] at h
      replace b0 := Bool.eq_false_iff.2 b0
      exact AtV.runN tabOk ext42Ok mixed (p42_1 x0 x1) ⟨b0, trivial⟩ (ih4 _ _ _ _ h K q)

  · intro v5 x0 x1 ds h K q
    rw [R42_4] at h
    by_cases b0 : (decide (v5 < (↑(List.length x0) : Int))) = true
    · rw [if_pos b0] at h
      obtain ⟨s0, s1, h⟩ := h
      obtain ⟨s2, s3, h⟩ := h
      by_cases b1 : (!g94_0 (List.getD x0 (Int.toNat v5) (ByteArray.empty, 0, 0, 0, ())) (List.getD x1 (Int.toNat v5) (ByteArray.empty, 0, 0, 0, ()))) = true
      · rw [if_pos b1] at h
        subst h
        exact AtV.fin Tryz.func42 tabOk ext42Ok mixed (p42_2 v5 x0 x1) ⟨b0, s0, s1, s2, s3, trivial, b1, trivial⟩
      · rw [if_neg b1] at h
        replace b1 := Bool.eq_false_iff.2 b1
        obtain ⟨s4, h⟩ := h
        exact AtV.runN tabOk ext42Ok mixed (p42_3 v5 x0 x1) ⟨b0, s0, s1, s2, s3, trivial, b1, s4, trivial⟩ (ih4 _ _ _ _ h K q)
    · rw [if_neg b0] at h
      replace b0 := Bool.eq_false_iff.2 b0
      subst h
      exact AtV.fin Tryz.func42 tabOk ext42Ok mixed (p42_4 v5 x0 x1) ⟨b0, trivial⟩



theorem eq42 (x0 x1 : List TyB0) (hl : x0.length = x1.length) (hm : x0.length ≤ maxLen) : ∀ k i : Nat, i + k = x0.length → R42_4 (k + 1) (i : Int) x0 x1 [⟨.bool, decide (x0.drop i = x1.drop i)⟩] := by
  intro k
  induction k with
  | zero =>
    intro i hi
    have h1 : ¬ (i : Int) < (x0.length : Int) := by omega
    rw [R42_4, if_neg (by simpa using h1), drop_end x0 i (by omega), drop_end x1 i (by omega)]
    simp
  | succ k ih =>
    intro i hi
    have h1 : (i : Int) < (x0.length : Int) := by omega
    rw [R42_4, if_pos (by simpa using h1)]
    refine ⟨by omega, h1, by omega, by omega, ?_⟩
    simp only [Int.toNat_natCast]
    rw [drop_get x0 i (ByteArray.empty, (0 : Int), (0 : Int), (0 : Int), ()) (by omega), drop_get x1 i (ByteArray.empty, (0 : Int), (0 : Int), (0 : Int), ()) (by omega)]
    by_cases he : x0.getD i (ByteArray.empty, (0 : Int), (0 : Int), (0 : Int), ()) = x1.getD i (ByteArray.empty, (0 : Int), (0 : Int), (0 : Int), ())
    · have hd := (eqd94 _ _).2 he
      rw [if_neg (by rw [hd]; simp)]
      refine ⟨inR_up hm (by omega), ?_⟩
      have := ih (i + 1) (by omega)
      simp only [he, List.cons.injEq, true_and]
      exact this
    · have hd : g94_0 (x0.getD i (ByteArray.empty, (0 : Int), (0 : Int), (0 : Int), ())) (x1.getD i (ByteArray.empty, (0 : Int), (0 : Int), (0 : Int), ())) = false :=
        Bool.eq_false_iff.2 fun h => he ((eqd94 _ _).1 h)
      rw [if_pos (by rw [hd]; rfl)]
      simp only [he, List.cons.injEq, false_and, decide_false]

def g42_0 (x0 x1 : List TyB0) : Bool := decide (x0 = x1)
def P42 (x0 x1 : List TyB0) : Prop := True
def S42 : Am.Spec := { sig := sig42, pre := fun ⟨x0, x1, _⟩ => P42 x0 x1, res := fun ⟨x0, x1, _⟩ => [⟨Ty.bool, g42_0 x0 x1⟩] }
theorem con42 : Contract Tryz.prog 42 S42 := contract_of Tryz.func42 hb42 (Nat.le_of_ble_eq_true (by kernel_rfl)) (fun ⟨x0, x1, _⟩ h hwf K q => by
  refine (snd42 (x0.length + 2)).1 x0 x1 _ ?_ K q
  show R42 (x0.length + 1 + 1) x0 x1 [⟨Ty.bool, decide (x0 = x1)⟩]
  rw [R42]
  by_cases hl : x0.length = x1.length
  · rw [if_neg (by simp [hl])]
    have := eq42 x0 x1 hl hwf.1.1 x0.length 0 (by omega)
    simpa using this
  · rw [if_pos (by simp; omega)]
    have : x0 ≠ x1 := fun h => hl (by rw [h])
    simp [this])

end
end Go.Proofs.YtcakiedjgnhjcaaGreat

/- Function 43 (laws.eqRope): its runs between cut points. Written by a program of this repo (gen). -/
set_option linter.unusedVariables false
set_option linter.unusedSimpArgs false
set_option maxRecDepth 100000
namespace Go.Proofs.YtcakiedjgnhjcaaGreat
open Go Go.Am Go.Proofs
noncomputable section
def ext43 : Ext := []
theorem ext43Ok : ExtOk Tryz.prog ext43 := trivial

noncomputable def b43 : Code := bodyOf Tryz.f43
theorem hb43 : Tryz.f43.body = some b43 := by kernel_rfl
def sig43 : List AT := [AT.v (Ty.cons (Ty.int .i64) (Ty.cons (Ty.int .i64) (Ty.cons (Ty.int .i64) (Ty.cons (Ty.int .i64) Ty.unit)))), AT.v (Ty.cons (Ty.int .i64) (Ty.cons (Ty.int .i64) (Ty.cons (Ty.int .i64) (Ty.cons (Ty.int .i64) Ty.unit))))]
def tys43 : List Ty := [Ty.bool]
def kds43 : List RK := []
def oks43 : List AT := owns sig43
def P43 (x0 : Int × Int × Int × Int × Unit) (x1 : Int × Int × Int × Int × Unit) : Prop := True
def g43_0 (x0 : Int × Int × Int × Int × Unit) (x1 : Int × Int × Int × Int × Unit) : Bool := (if (x0.1 != x1.1) = true then false else (if (x0.2.1 != x1.2.1) = true then false else (if (x0.2.2.1 != x1.2.2.1) = true then false else (if (x0.2.2.2.1 != x1.2.2.2.1) = true then false else true))))
theorem p43_0 (x0 : Int × Int × Int × Int × Unit) (x1 : Int × Int × Int × Int × Unit) : runF tab ext43 false 25 [] 2000 [] oks43 kds43 tys43 Tryz.f43.results [true] [.code b43] (entE 0 0 sig43 (x0, x1, ())) (entL sig43 (x0, x1, ())) = some ([Dyn.mk Ty.bool false], [], [(x0.1 != x1.1) = true]) := by kernel_rfl
theorem p43_1 (x0 : Int × Int × Int × Int × Unit) (x1 : Int × Int × Int × Int × Unit) : runF tab ext43 false 25 [] 2000 [] oks43 kds43 tys43 Tryz.f43.results [false, true] [.code b43] (entE 0 0 sig43 (x0, x1, ())) (entL sig43 (x0, x1, ())) = some ([Dyn.mk Ty.bool false], [], [(x0.1 != x1.1) = false, (x0.2.1 != x1.2.1) = true]) := by kernel_rfl
theorem p43_2 (x0 : Int × Int × Int × Int × Unit) (x1 : Int × Int × Int × Int × Unit) : runF tab ext43 false 25 [] 2000 [] oks43 kds43 tys43 Tryz.f43.results [false, false, true] [.code b43] (entE 0 0 sig43 (x0, x1, ())) (entL sig43 (x0, x1, ())) = some ([Dyn.mk Ty.bool false], [], [(x0.1 != x1.1) = false, (x0.2.1 != x1.2.1) = false, (x0.2.2.1 != x1.2.2.1) = true]) := by kernel_rfl
theorem p43_3 (x0 : Int × Int × Int × Int × Unit) (x1 : Int × Int × Int × Int × Unit) : runF tab ext43 false 25 [] 2000 [] oks43 kds43 tys43 Tryz.f43.results [false, false, false, true] [.code b43] (entE 0 0 sig43 (x0, x1, ())) (entL sig43 (x0, x1, ())) = some ([Dyn.mk Ty.bool false], [], [(x0.1 != x1.1) = false, (x0.2.1 != x1.2.1) = false, (x0.2.2.1 != x1.2.2.1) = false, (x0.2.2.2.1 != x1.2.2.2.1) = true]) := by kernel_rfl
theorem p43_4 (x0 : Int × Int × Int × Int × Unit) (x1 : Int × Int × Int × Int × Unit) : runF tab ext43 false 25 [] 2000 [] oks43 kds43 tys43 Tryz.f43.results [false, false, false, false] [.code b43] (entE 0 0 sig43 (x0, x1, ())) (entL sig43 (x0, x1, ())) = some ([Dyn.mk Ty.bool true], [], [(x0.1 != x1.1) = false, (x0.2.1 != x1.2.1) = false, (x0.2.2.1 != x1.2.2.1) = false, (x0.2.2.2.1 != x1.2.2.2.1) = false]) := by kernel_rfl
theorem at43 (x0 : Int × Int × Int × Int × Unit) (x1 : Int × Int × Int × Int × Unit) (h : P43 x0 x1) (K : Ctx) (q : Nat → Value) : AtV Tryz.prog 43 (PostR kds43 oks43 [⟨Ty.bool, g43_0 x0 x1⟩] [] [] q K) 25 K q [] [.code b43] (entE 0 0 sig43 (x0, x1, ())) (entL sig43 (x0, x1, ())) := by
  unfold P43 at h
  unfold g43_0
  by_cases b0 : (x0.1 != x1.1) = true
  · try simp only [if_pos b0] at h ⊢
    exact AtV.fin Tryz.func43 tabOk ext43Ok mixed (p43_0 x0 x1) ⟨b0, trivial⟩
  · try simp only [if_neg b0] at h ⊢
    replace b0 := Bool.eq_false_iff.2 b0
    by_cases b1 : (x0.2.1 != x1.2.1) = true
    · try simp only [if_pos b1] at h ⊢
      exact AtV.fin Tryz.func43 tabOk ext43Ok mixed (p43_1 x0 x1) ⟨b0, b1, trivial⟩
    · try simp only [if_neg b1] at h ⊢
      replace b1 := Bool.eq_false_iff.2 b1
      by_cases b2 : (x0.2.2.1 != x1.2.2.1) = true
      · try simp only [if_pos b2] at h ⊢
        exact AtV.fin Tryz.func43 tabOk ext43Ok mixed (p43_2 x0 x1) ⟨b0, b1, b2, trivial⟩
      · try simp only [if_neg b2] at h ⊢
        replace b2 := Bool.eq_false_iff.2 b2
        by_cases b3 : (x0.2.2.2.1 != x1.2.2.2.1) = true
        · try simp only [if_pos b3] at h ⊢
          exact AtV.fin Tryz.func43 tabOk ext43Ok mixed (p43_3 x0 x1) ⟨b0, b1, b2, b3, trivial⟩
        · try simp only [if_neg b3] at h ⊢
          replace b3 := Bool.eq_false_iff.2 b3
          exact AtV.fin Tryz.func43 tabOk ext43Ok mixed (p43_4 x0 x1) ⟨b0, b1, b2, b3, trivial⟩

def S43 : Am.Spec := { sig := sig43, pre := fun ⟨x0, x1, _⟩ => P43 x0 x1, res := fun ⟨x0, x1, _⟩ => [⟨Ty.bool, g43_0 x0 x1⟩], kds := kds43 }
theorem con43 : Contract Tryz.prog 43 S43 := contract_of Tryz.func43 hb43 (Nat.le_of_ble_eq_true (by kernel_rfl)) (fun ⟨x0, x1, _⟩ h _ K q => at43 x0 x1 h K q)


end
end Go.Proofs.YtcakiedjgnhjcaaGreat

/- Function 95 (laws.eqHour): its runs between cut points. Written by a program of this repo (gen). -/
set_option linter.unusedVariables false
set_option linter.unusedSimpArgs false
set_option maxRecDepth 100000
namespace Go.Proofs.YtcakiedjgnhjcaaGreat
open Go Go.Am Go.Proofs
noncomputable section
def ext95 : Ext := []
theorem ext95Ok : ExtOk Tryz.prog ext95 := trivial

noncomputable def b95 : Code := bodyOf Tryz.f95
theorem hb95 : Tryz.f95.body = some b95 := by kernel_rfl
def sig95 : List AT := [AT.v (Ty.cons (Ty.int .i64) (Ty.cons (Ty.int .i64) (Ty.cons (Ty.int .i64) Ty.unit))), AT.v (Ty.cons (Ty.int .i64) (Ty.cons (Ty.int .i64) (Ty.cons (Ty.int .i64) Ty.unit)))]
def tys95 : List Ty := [Ty.bool]
def kds95 : List RK := []
def oks95 : List AT := owns sig95
def P95 (x0 : Int × Int × Int × Unit) (x1 : Int × Int × Int × Unit) : Prop := True
def g95_0 (x0 : Int × Int × Int × Unit) (x1 : Int × Int × Int × Unit) : Bool := (if (x0.1 != x1.1) = true then false else (if (x0.2.1 != x1.2.1) = true then false else (if (x0.2.2.1 != x1.2.2.1) = true then false else true)))
theorem p95_0 (x0 : Int × Int × Int × Unit) (x1 : Int × Int × Int × Unit) : runF tab ext95 false 20 [] 2000 [] oks95 kds95 tys95 Tryz.f95.results [true] [.code b95] (entE 0 0 sig95 (x0, x1, ())) (entL sig95 (x0, x1, ())) = some ([Dyn.mk Ty.bool false], [], [(x0.1 != x1.1) = true]) := by kernel_rfl
theorem p95_1 (x0 : Int × Int × Int × Unit) (x1 : Int × Int × Int × Unit) : runF tab ext95 false 20 [] 2000 [] oks95 kds95 tys95 Tryz.f95.results [false, true] [.code b95] (entE 0 0 sig95 (x0, x1, ())) (entL sig95 (x0, x1, ())) = some ([Dyn.mk Ty.bool false], [], [(x0.1 != x1.1) = false, (x0.2.1 != x1.2.1) = true]) := by kernel_rfl
theorem p95_2 (x0 : Int × Int × Int × Unit) (x1 : Int × Int × Int × Unit) : runF tab ext95 false 20 [] 2000 [] oks95 kds95 tys95 Tryz.f95.results [false, false, true] [.code b95] (entE 0 0 sig95 (x0, x1, ())) (entL sig95 (x0, x1, ())) = some ([Dyn.mk Ty.bool false], [], [(x0.1 != x1.1) = false, (x0.2.1 != x1.2.1) = false, (x0.2.2.1 != x1.2.2.1) = true]) := by kernel_rfl
theorem p95_3 (x0 : Int × Int × Int × Unit) (x1 : Int × Int × Int × Unit) : runF tab ext95 false 20 [] 2000 [] oks95 kds95 tys95 Tryz.f95.results [false, false, false] [.code b95] (entE 0 0 sig95 (x0, x1, ())) (entL sig95 (x0, x1, ())) = some ([Dyn.mk Ty.bool true], [], [(x0.1 != x1.1) = false, (x0.2.1 != x1.2.1) = false, (x0.2.2.1 != x1.2.2.1) = false]) := by kernel_rfl
theorem at95 (x0 : Int × Int × Int × Unit) (x1 : Int × Int × Int × Unit) (h : P95 x0 x1) (K : Ctx) (q : Nat → Value) : AtV Tryz.prog 95 (PostR kds95 oks95 [⟨Ty.bool, g95_0 x0 x1⟩] [] [] q K) 20 K q [] [.code b95] (entE 0 0 sig95 (x0, x1, ())) (entL sig95 (x0, x1, ())) := by
  unfold P95 at h
  unfold g95_0
  by_cases b0 : (x0.1 != x1.1) = true
  · try simp only [if_pos b0] at h ⊢
    exact AtV.fin Tryz.func95 tabOk ext95Ok mixed (p95_0 x0 x1) ⟨b0, trivial⟩
  · try simp only [if_neg b0] at h ⊢
    replace b0 := Bool.eq_false_iff.2 b0
    by_cases b1 : (x0.2.1 != x1.2.1) = true
    · try simp only [if_pos b1] at h ⊢
      exact AtV.fin Tryz.func95 tabOk ext95Ok mixed (p95_1 x0 x1) ⟨b0, b1, trivial⟩
    · try simp only [if_neg b1] at h ⊢
      replace b1 := Bool.eq_false_iff.2 b1
      by_cases b2 : (x0.2.2.1 != x1.2.2.1) = true
      · try simp only [if_pos b2] at h ⊢
        exact AtV.fin Tryz.func95 tabOk ext95Ok mixed (p95_2 x0 x1) ⟨b0, b1, b2, trivial⟩
      · try simp only [if_neg b2] at h ⊢
        replace b2 := Bool.eq_false_iff.2 b2
        exact AtV.fin Tryz.func95 tabOk ext95Ok mixed (p95_3 x0 x1) ⟨b0, b1, b2, trivial⟩

def S95 : Am.Spec := { sig := sig95, pre := fun ⟨x0, x1, _⟩ => P95 x0 x1, res := fun ⟨x0, x1, _⟩ => [⟨Ty.bool, g95_0 x0 x1⟩], kds := kds95 }
theorem con95 : Contract Tryz.prog 95 S95 := contract_of Tryz.func95 hb95 (Nat.le_of_ble_eq_true (by kernel_rfl)) (fun ⟨x0, x1, _⟩ h _ K q => at95 x0 x1 h K q)


theorem eqd95 (x y : TyB2) : g95_0 x y = true ↔ x = y := by
  obtain ⟨a, b, c, u⟩ := x
  obtain ⟨a', b', c', u'⟩ := y
  unfold g95_0
  simp only [Bool.not_eq_true', bytes_ne, bne_iff_ne, ne_eq, ite_not]
  by_cases h0 : a = a'
  · by_cases h1 : b = b'
    · by_cases h2 : c = c'
      · simp [h0, h1, h2]
      · simp [h0, h1, h2]
    · simp [h0, h1]
  · simp [h0]

end
end Go.Proofs.YtcakiedjgnhjcaaGreat

/- Function 44 (laws.eqHourS): its runs between cut points. Written by a program of this repo (gen). -/
set_option linter.unusedVariables false
set_option linter.unusedSimpArgs false
set_option maxRecDepth 100000
namespace Go.Proofs.YtcakiedjgnhjcaaGreat
open Go Go.Am Go.Proofs
noncomputable section
def ext44 : Ext := [(95, S95)]
theorem call44_95 : Callable Tryz.prog 95 := ⟨Tryz.f95, Tryz.func95, by kernel_rfl, by kernel_rfl⟩
theorem ext44Ok : ExtOk Tryz.prog ext44 := ⟨⟨call44_95, con95⟩, trivial⟩

noncomputable def b44 : Code := bodyOf Tryz.f44
theorem hb44 : Tryz.f44.body = some b44 := by kernel_rfl
def sig44 : List AT := [AT.v (Ty.sl (Ty.cons (Ty.int .i64) (Ty.cons (Ty.int .i64) (Ty.cons (Ty.int .i64) Ty.unit)))), AT.v (Ty.sl (Ty.cons (Ty.int .i64) (Ty.cons (Ty.int .i64) (Ty.cons (Ty.int .i64) Ty.unit))))]
def tys44 : List Ty := [Ty.bool]
def kds44 : List RK := []
def oks44 : List AT := owns sig44
def E44_4 (v5 : Int) (x0 : List TyB2) (x1 : List TyB2) : Env := [(0, PV.a (Atom.sl (Ty.cons (Ty.int .i64) (Ty.cons (Ty.int .i64) (Ty.cons (Ty.int .i64) Ty.unit))) x0)), (1, PV.a (Atom.sl (Ty.cons (Ty.int .i64) (Ty.cons (Ty.int .i64) (Ty.cons (Ty.int .i64) Ty.unit))) x1)), (5, PV.a (Atom.val (Value.int .i64 v5)))]
def L44_4 (v5 : Int) (x0 : List TyB2) (x1 : List TyB2) : Heap := []
mutual
def R44 : Nat → List TyB2 → List TyB2 → List Dyn → Prop
  | 0, _, _, _ => False
  | n + 1, x0, x1, ds => (if ((↑(List.length x0) : Int) != (↑(List.length x1) : Int)) = true then (ds = [Dyn.mk Ty.bool false]) else (R44_4 n (0) (x0) (x1) ds))
def R44_4 : Nat → Int → List TyB2 → List TyB2 → List Dyn → Prop
  | 0, _, _, _, _ => False
  | n + 1, v5, x0, x1, ds => (if (decide (v5 < (↑(List.length x0) : Int))) = true then ((0 ≤ v5) ∧ (v5 < (↑(List.length x0) : Int)) ∧ ((0 ≤ v5) ∧ (v5 < (↑(List.length x1) : Int)) ∧ (if (!g95_0 (List.getD x0 (Int.toNat v5) (0, 0, 0, ())) (List.getD x1 (Int.toNat v5) (0, 0, 0, ()))) = true then (ds = [Dyn.mk Ty.bool false]) else ((InR .i64 (v5 + 1)) ∧ (R44_4 n (v5 + 1) (x0) (x1) ds))))) else (ds = [Dyn.mk Ty.bool true]))
end
theorem p44_0 (x0 : List TyB2) (x1 : List TyB2) : runF tab ext44 false 27 [] 2000 [] oks44 kds44 tys44 Tryz.f44.results [true] [.code b44] (entE 0 0 sig44 (x0, x1, ())) (entL sig44 (x0, x1, ())) = some ([Dyn.mk Ty.bool false], [], [((↑(List.length x0) : Int) != (↑(List.length x1) : Int)) = true]) := by kernel_rfl
theorem p44_1 (x0 : List TyB2) (x1 : List TyB2) : Am.runN tab ext44 false 27 [] 2000 [] [] [0, 1, 5] [] [false] [.code b44] (entE 0 0 sig44 (x0, x1, ())) (entL sig44 (x0, x1, ())) = some (cutAt b44 4, E44_4 (0) (x0) (x1), L44_4 (0) (x0) (x1), [((↑(List.length x0) : Int) != (↑(List.length x1) : Int)) = false]) := by kernel_rfl
theorem p44_2 (v5 : Int) (x0 : List TyB2) (x1 : List TyB2) : runF tab ext44 false 27 [] 2000 [] oks44 kds44 tys44 Tryz.f44.results [true, true] (cutAt b44 4) (E44_4 v5 x0 x1) (L44_4 v5 x0 x1) = some ([Dyn.mk Ty.bool false], [], [decide (v5 < (↑(List.length x0) : Int)) = true, 0 ≤ v5, v5 < (↑(List.length x0) : Int), 0 ≤ v5, v5 < (↑(List.length x1) : Int), True, (!g95_0 (List.getD x0 (Int.toNat v5) (0, 0, 0, ())) (List.getD x1 (Int.toNat v5) (0, 0, 0, ()))) = true]) := by kernel_rfl
theorem p44_3 (v5 : Int) (x0 : List TyB2) (x1 : List TyB2) : Am.runN tab ext44 false 27 [] 2000 [] [] [0, 1, 5] [] [true, false] (cutAt b44 4) (E44_4 v5 x0 x1) (L44_4 v5 x0 x1) = some (cutAt b44 4, E44_4 (v5 + 1) (x0) (x1), L44_4 (v5 + 1) (x0) (x1), [decide (v5 < (↑(List.length x0) : Int)) = true, 0 ≤ v5, v5 < (↑(List.length x0) : Int), 0 ≤ v5, v5 < (↑(List.length x1) : Int), True, (!g95_0 (List.getD x0 (Int.toNat v5) (0, 0, 0, ())) (List.getD x1 (Int.toNat v5) (0, 0, 0, ()))) = false, InR .i64 (v5 + 1)]) := by kernel_rfl
theorem p44_4 (v5 : Int) (x0 : List TyB2) (x1 : List TyB2) : runF tab ext44 false 27 [] 2000 [] oks44 kds44 tys44 Tryz.f44.results [false] (cutAt b44 4) (E44_4 v5 x0 x1) (L44_4 v5 x0 x1) = some ([Dyn.mk Ty.bool true], [], [decide (v5 < (↑(List.length x0) : Int)) = false]) := by kernel_rfl
theorem snd44 : ∀ n, (∀ (x0 : List TyB2) (x1 : List TyB2) ds, R44 n x0 x1 ds → ∀ K q, AtV Tryz.prog 44 (PostR kds44 oks44 ds [] [] q K) 27 K q [] [.code b44] (entE 0 0 sig44 (x0, x1, ())) (entL sig44 (x0, x1, ()))) ∧ (∀ (v5 : Int) (x0 : List TyB2) (x1 : List TyB2) ds, R44_4 n v5 x0 x1 ds → ∀ K q, AtV Tryz.prog 44 (PostR kds44 oks44 ds [] [] q K) 27 K q [] (cutAt b44 4) (E44_4 v5 x0 x1) (L44_4 v5 x0 x1)) := by
  intro n
  induction n with
  | zero => exact ⟨fun _ _ _ h => by simp only [R44] at h, fun _ _ _ _ h => by simp only [R44_4] at h⟩
  | succ n ih =>
  obtain ⟨ih, ih4⟩ := ih
  refine ⟨?_, ?_⟩
  · intro x0 x1 ds h K q
    rw [R44] at h
    by_cases b0 : ((↑(List.length x0) : Int) != (↑(List.length x1) : Int)) = true
    · rw [if_pos b0] at h
      subst h
      exact AtV.fin Tryz.func44 tabOk ext44Ok mixed (p44_0 x0 x1) ⟨b0, trivial⟩
    · rw [if_neg b0] at h
      replace b0 := Bool.eq_false_iff.2 b0
      exact AtV.runN tabOk ext44Ok mixed (p44_1 x0 x1) ⟨b0, trivial⟩ (ih4 _ _ _ _ h K q)

  · intro v5 x0 x1 ds h K q
    rw [R44_4] at h
    by_cases b0 : (decide (v5 < (↑(List.length x0) : Int))) = true
    · rw [if_pos b0] at h
      obtain ⟨s0, s1, h⟩ := h
      obtain ⟨s2, s3, h⟩ := h
      by_cases b1 : (!g95_0 (List.getD x0 (Int.toNat v5) (0, 0, 0, ())) (List.getD x1 (Int.toNat v5) (0, 0, 0, ()))) = true
      · rw [if_pos b1] at h
        subst h
        exact AtV.fin Tryz.func44 tabOk ext44Ok mixed (p44_2 v5 x0 x1) ⟨b0, s0, s1, s2, s3, trivial, b1, trivial⟩
      · rw [if_neg b1] at h
        replace b1 := Bool.eq_false_iff.2 b1
        obtain ⟨s4, h⟩ := h
        exact AtV.runN tabOk ext44Ok mixed (p44_3 v5 x0 x1) ⟨b0, s0, s1, s2, s3, trivial, b1, s4, trivial⟩ (ih4 _ _ _ _ h K q)
    · rw [if_neg b0] at h
      replace b0 := Bool.eq_false_iff.2 b0
      subst h
      exact AtV.fin Tryz.func44 tabOk ext44Ok mixed (p44_4 v5 x0 x1) ⟨b0, trivial⟩



theorem eq44 (x0 x1 : List TyB2) (hl : x0.length = x1.length) (hm : x0.length ≤ maxLen) : ∀ k i : Nat, i + k = x0.length → R44_4 (k + 1) (i : Int) x0 x1 [⟨.bool, decide (x0.drop i = x1.drop i)⟩] := by
  intro k
  induction k with
  | zero =>
    intro i hi
    have h1 : ¬ (i : Int) < (x0.length : Int) := by omega
    rw [R44_4, if_neg (by simpa using h1), drop_end x0 i (by omega), drop_end x1 i (by omega)]
    simp
  | succ k ih =>
    intro i hi
    have h1 : (i : Int) < (x0.length : Int) := by omega
    rw [R44_4, if_pos (by simpa using h1)]
    refine ⟨by omega, h1, by omega, by omega, ?_⟩
    simp only [Int.toNat_natCast]
    rw [drop_get x0 i ((0 : Int), (0 : Int), (0 : Int), ()) (by omega), drop_get x1 i ((0 : Int), (0 : Int), (0 : Int), ()) (by omega)]
    by_cases he : x0.getD i ((0 : Int), (0 : Int), (0 : Int), ()) = x1.getD i ((0 : Int), (0 : Int), (0 : Int), ())
    · have hd := (eqd95 _ _).2 he
      rw [if_neg (by rw [hd]; simp)]
      refine ⟨inR_up hm (by omega), ?_⟩
      have := ih (i + 1) (by omega)
      simp only [he, List.cons.injEq, true_and]
      exact this
    · have hd : g95_0 (x0.getD i ((0 : Int), (0 : Int), (0 : Int), ())) (x1.getD i ((0 : Int), (0 : Int), (0 : Int), ())) = false :=
        Bool.eq_false_iff.2 fun h => he ((eqd95 _ _).1 h)
      rw [if_pos (by rw [hd]; rfl)]
      simp only [he, List.cons.injEq, false_and, decide_false]

def g44_0 (x0 x1 : List TyB2) : Bool := decide (x0 = x1)
def P44 (x0 x1 : List TyB2) : Prop := True
def S44 : Am.Spec := { sig := sig44, pre := fun ⟨x0, x1, _⟩ => P44 x0 x1, res := fun ⟨x0, x1, _⟩ => [⟨Ty.bool, g44_0 x0 x1⟩] }
theorem con44 : Contract Tryz.prog 44 S44 := contract_of Tryz.func44 hb44 (Nat.le_of_ble_eq_true (by kernel_rfl)) (fun ⟨x0, x1, _⟩ h hwf K q => by
  refine (snd44 (x0.length + 2)).1 x0 x1 _ ?_ K q
  show R44 (x0.length + 1 + 1) x0 x1 [⟨Ty.bool, decide (x0 = x1)⟩]
  rw [R44]
  by_cases hl : x0.length = x1.length
  · rw [if_neg (by simp [hl])]
    have := eq44 x0 x1 hl hwf.1.1 x0.length 0 (by omega)
    simpa using this
  · rw [if_pos (by simp; omega)]
    have : x0 ≠ x1 := fun h => hl (by rw [h])
    simp [this])

end
end Go.Proofs.YtcakiedjgnhjcaaGreat

/- Function 96 (laws.eqLimit): its runs between cut points. Written by a program of this repo (gen). -/
set_option linter.unusedVariables false
set_option linter.unusedSimpArgs false
set_option maxRecDepth 100000
namespace Go.Proofs.YtcakiedjgnhjcaaGreat
open Go Go.Am Go.Proofs
noncomputable section
def ext96 : Ext := []
theorem ext96Ok : ExtOk Tryz.prog ext96 := trivial

noncomputable def b96 : Code := bodyOf Tryz.f96
theorem hb96 : Tryz.f96.body = some b96 := by kernel_rfl
def sig96 : List AT := [AT.v (Ty.cons (Ty.int .i64) (Ty.cons (Ty.int .i64) (Ty.cons (Ty.int .i64) Ty.unit))), AT.v (Ty.cons (Ty.int .i64) (Ty.cons (Ty.int .i64) (Ty.cons (Ty.int .i64) Ty.unit)))]
def tys96 : List Ty := [Ty.bool]
def kds96 : List RK := []
def oks96 : List AT := owns sig96
def P96 (x0 : Int × Int × Int × Unit) (x1 : Int × Int × Int × Unit) : Prop := True
def g96_0 (x0 : Int × Int × Int × Unit) (x1 : Int × Int × Int × Unit) : Bool := (if (x0.1 != x1.1) = true then false else (if (x0.2.1 != x1.2.1) = true then false else (if (x0.2.2.1 != x1.2.2.1) = true then false else true)))
theorem p96_0 (x0 : Int × Int × Int × Unit) (x1 : Int × Int × Int × Unit) : runF tab ext96 false 20 [] 2000 [] oks96 kds96 tys96 Tryz.f96.results [true] [.code b96] (entE 0 0 sig96 (x0, x1, ())) (entL sig96 (x0, x1, ())) = some ([Dyn.mk Ty.bool false], [], [(x0.1 != x1.1) = true]) := by kernel_rfl
theorem p96_1 (x0 : Int × Int × Int × Unit) (x1 : Int × Int × Int × Unit) : runF tab ext96 false 20 [] 2000 [] oks96 kds96 tys96 Tryz.f96.results [false, true] [.code b96] (entE 0 0 sig96 (x0, x1, ())) (entL sig96 (x0, x1, ())) = some ([Dyn.mk Ty.bool false], [], [(x0.1 != x1.1) = false, (x0.2.1 != x1.2.1) = true]) := by kernel_rfl
theorem p96_2 (x0 : Int × Int × Int × Unit) (x1 : Int × Int × Int × Unit) : runF tab ext96 false 20 [] 2000 [] oks96 kds96 tys96 Tryz.f96.results [false, false, true] [.code b96] (entE 0 0 sig96 (x0, x1, ())) (entL sig96 (x0, x1, ())) = some ([Dyn.mk Ty.bool false], [], [(x0.1 != x1.1) = false, (x0.2.1 != x1.2.1) = false, (x0.2.2.1 != x1.2.2.1) = true]) := by kernel_rfl
theorem p96_3 (x0 : Int × Int × Int × Unit) (x1 : Int × Int × Int × Unit) : runF tab ext96 false 20 [] 2000 [] oks96 kds96 tys96 Tryz.f96.results [false, false, false] [.code b96] (entE 0 0 sig96 (x0, x1, ())) (entL sig96 (x0, x1, ())) = some ([Dyn.mk Ty.bool true], [], [(x0.1 != x1.1) = false, (x0.2.1 != x1.2.1) = false, (x0.2.2.1 != x1.2.2.1) = false]) := by kernel_rfl
theorem at96 (x0 : Int × Int × Int × Unit) (x1 : Int × Int × Int × Unit) (h : P96 x0 x1) (K : Ctx) (q : Nat → Value) : AtV Tryz.prog 96 (PostR kds96 oks96 [⟨Ty.bool, g96_0 x0 x1⟩] [] [] q K) 20 K q [] [.code b96] (entE 0 0 sig96 (x0, x1, ())) (entL sig96 (x0, x1, ())) := by
  unfold P96 at h
  unfold g96_0
  by_cases b0 : (x0.1 != x1.1) = true
  · try simp only [if_pos b0] at h ⊢
    exact AtV.fin Tryz.func96 tabOk ext96Ok mixed (p96_0 x0 x1) ⟨b0, trivial⟩
  · try simp only [if_neg b0] at h ⊢
    replace b0 := Bool.eq_false_iff.2 b0
    by_cases b1 : (x0.2.1 != x1.2.1) = true
    · try simp only [if_pos b1] at h ⊢
      exact AtV.fin Tryz.func96 tabOk ext96Ok mixed (p96_1 x0 x1) ⟨b0, b1, trivial⟩
    · try simp only [if_neg b1] at h ⊢
      replace b1 := Bool.eq_false_iff.2 b1
      by_cases b2 : (x0.2.2.1 != x1.2.2.1) = true
      · try simp only [if_pos b2] at h ⊢
        exact AtV.fin Tryz.func96 tabOk ext96Ok mixed (p96_2 x0 x1) ⟨b0, b1, b2, trivial⟩
      · try simp only [if_neg b2] at h ⊢
        replace b2 := Bool.eq_false_iff.2 b2
        exact AtV.fin Tryz.func96 tabOk ext96Ok mixed (p96_3 x0 x1) ⟨b0, b1, b2, trivial⟩

def S96 : Am.Spec := { sig := sig96, pre := fun ⟨x0, x1, _⟩ => P96 x0 x1, res := fun ⟨x0, x1, _⟩ => [⟨Ty.bool, g96_0 x0 x1⟩], kds := kds96 }
theorem con96 : Contract Tryz.prog 96 S96 := contract_of Tryz.func96 hb96 (Nat.le_of_ble_eq_true (by kernel_rfl)) (fun ⟨x0, x1, _⟩ h _ K q => at96 x0 x1 h K q)


theorem eqd96 (x y : TyB2) : g96_0 x y = true ↔ x = y := by
  obtain ⟨a, b, c, u⟩ := x
  obtain ⟨a', b', c', u'⟩ := y
  unfold g96_0
  simp only [Bool.not_eq_true', bytes_ne, bne_iff_ne, ne_eq, ite_not]
  by_cases h0 : a = a'
  · by_cases h1 : b = b'
    · by_cases h2 : c = c'
      · simp [h0, h1, h2]
      · simp [h0, h1, h2]
    · simp [h0, h1]
  · simp [h0]

end
end Go.Proofs.YtcakiedjgnhjcaaGreat

/- Function 45 (laws.eqLimitS): its runs between cut points. Written by a program of this repo (gen). -/
set_option linter.unusedVariables false
set_option linter.unusedSimpArgs false
set_option maxRecDepth 100000
namespace Go.Proofs.YtcakiedjgnhjcaaGreat
open Go Go.Am Go.Proofs
noncomputable section
def ext45 : Ext := [(96, S96)]
theorem call45_96 : Callable Tryz.prog 96 := ⟨Tryz.f96, Tryz.func96, by kernel_rfl, by kernel_rfl⟩
theorem ext45Ok : ExtOk Tryz.prog ext45 := ⟨⟨call45_96, con96⟩, trivial⟩

noncomputable def b45 : Code := bodyOf Tryz.f45
theorem hb45 : Tryz.f45.body = some b45 := by kernel_rfl
def sig45 : List AT := [AT.v (Ty.sl (Ty.cons (Ty.int .i64) (Ty.cons (Ty.int .i64) (Ty.cons (Ty.int .i64) Ty.unit)))), AT.v (Ty.sl (Ty.cons (Ty.int .i64) (Ty.cons (Ty.int .i64) (Ty.cons (Ty.int .i64) Ty.unit))))]
def tys45 : List Ty := [Ty.bool]
def kds45 : List RK := []
def oks45 : List AT := owns sig45
def E45_4 (v5 : Int) (x0 : List TyB2) (x1 : List TyB2) : Env := [(0, PV.a (Atom.sl (Ty.cons (Ty.int .i64) (Ty.cons (Ty.int .i64) (Ty.cons (Ty.int .i64) Ty.unit))) x0)), (1, PV.a (Atom.sl (Ty.cons (Ty.int .i64) (Ty.cons (Ty.int .i64) (Ty.cons (Ty.int .i64) Ty.unit))) x1)), (5, PV.a (Atom.val (Value.int .i64 v5)))]
def L45_4 (v5 : Int) (x0 : List TyB2) (x1 : List TyB2) : Heap := []
mutual
def R45 : Nat → List TyB2 → List TyB2 → List Dyn → Prop
  | 0, _, _, _ => False
  | n + 1, x0, x1, ds => (if ((↑(List.length x0) : Int) != (↑(List.length x1) : Int)) = true then (ds = [Dyn.mk Ty.bool false]) else (R45_4 n (0) (x0) (x1) ds))
def R45_4 : Nat → Int → List TyB2 → List TyB2 → List Dyn → Prop
  | 0, _, _, _, _ => False
  | n + 1, v5, x0, x1, ds => (if (decide (v5 < (↑(List.length x0) : Int))) = true then ((0 ≤ v5) ∧ (v5 < (↑(List.length x0) : Int)) ∧ ((0 ≤ v5) ∧ (v5 < (↑(List.length x1) : Int)) ∧ (if (!g96_0 (List.getD x0 (Int.toNat v5) (0, 0, 0, ())) (List.getD x1 (Int.toNat v5) (0, 0, 0, ()))) = true then (ds = [Dyn.mk Ty.bool false]) else ((InR .i64 (v5 + 1)) ∧ (R45_4 n (v5 + 1) (x0) (x1) ds))))) else (ds = [Dyn.mk Ty.bool true]))
end
theorem p45_0 (x0 : List TyB2) (x1 : List TyB2) : runF tab ext45 false 27 [] 2000 [] oks45 kds45 tys45 Tryz.f45.results [true] [.code b45] (entE 0 0 sig45 (x0, x1, ())) (entL sig45 (x0, x1, ())) = some ([Dyn.mk Ty.bool false], [], [((↑(List.length x0) : Int) != (↑(List.length x1) : Int)) = true]) := by kernel_rfl
theorem p45_1 (x0 : List TyB2) (x1 : List TyB2) : Am.runN tab ext45 false 27 [] 2000 [] [] [0, 1, 5] [] [false] [.code b45] (entE 0 0 sig45 (x0, x1, ())) (entL sig45 (x0, x1, ())) = some (cutAt b45 4, E45_4 (0) (x0) (x1), L45_4 (0) (x0) (x1), [((↑(List.length x0) : Int) != (↑(List.length x1) : Int)) = false]) := by kernel_rfl
theorem p45_2 (v5 : Int) (x0 : List TyB2) (x1 : List TyB2) : runF tab ext45 false 27 [] 2000 [] oks45 kds45 tys45 Tryz.f45.results [true, true] (cutAt b45 4) (E45_4 v5 x0 x1) (L45_4 v5 x0 x1) = some ([Dyn.mk Ty.bool false], [], [decide (v5 < (↑(List.length x0) : Int)) = true, 0 ≤ v5, v5 < (↑(List.length x0) : Int), 0 ≤ v5, v5 < (↑(List.length x1) : Int), True, (!g96_0 (List.getD x0 (Int.toNat v5) (0, 0, 0, ())) (List.getD x1 (Int.toNat v5) (0, 0, 0, ()))) = true]) := by kernel_rfl
theorem p45_3 (v5 : Int) (x0 : List TyB2) (x1 : List TyB2) : Am.runN tab ext45 false 27 [] 2000 [] [] [0, 1, 5] [] [true, false] (cutAt b45 4) (E45_4 v5 x0 x1) (L45_4 v5 x0 x1) = some (cutAt b45 4, E45_4 (v5 + 1) (x0) (x1), L45_4 (v5 + 1) (x0) (x1), [decide (v5 < (↑(List.length x0) : Int)) = true, 0 ≤ v5, v5 < (↑(List.length x0) : Int), 0 ≤ v5, v5 < (↑(List.length x1) : Int), True, (!g96_0 (List.getD x0 (Int.toNat v5) (0, 0, 0, ())) (List.getD x1 (Int.toNat v5) (0, 0, 0, ()))) = false, InR .i64 (v5 + 1)]) := by kernel_rfl
theorem p45_4 (v5 : Int) (x0 : List TyB2) (x1 : List TyB2) : runF tab ext45 false 27 [] 2000 [] oks45 kds45 tys45 Tryz.f45.results [false] (cutAt b45 4) (E45_4 v5 x0 x1) (L45_4 v5 x0 x1) = some ([Dyn.mk Ty.bool true], [], [decide (v5 < (↑(List.length x0) : Int)) = false]) := by kernel_rfl
theorem snd45 : ∀ n, (∀ (x0 : List TyB2) (x1 : List TyB2) ds, R45 n x0 x1 ds → ∀ K q, AtV Tryz.prog 45 (PostR kds45 oks45 ds [] [] q K) 27 K q [] [.code b45] (entE 0 0 sig45 (x0, x1, ())) (entL sig45 (x0, x1, ()))) ∧ (∀ (v5 : Int) (x0 : List TyB2) (x1 : List TyB2) ds, R45_4 n v5 x0 x1 ds → ∀ K q, AtV Tryz.prog 45 (PostR kds45 oks45 ds [] [] q K) 27 K q [] (cutAt b45 4) (E45_4 v5 x0 x1) (L45_4 v5 x0 x1)) := by
  intro n
  induction n with
  | zero => exact ⟨fun _ _ _ h => by simp only [R45] at h, fun _ _ _ _ h => by simp only [R45_4] at h⟩
  | succ n ih =>
  obtain ⟨ih, ih4⟩ := ih
  refine ⟨?_, ?_⟩
  · intro x0 x1 ds h K q
    rw [R45] at h
    by_cases b0 : ((↑(List.length x0) : Int) != (↑(List.length x1) : Int)) = true
    · rw [if_pos b0] at h
      subst h
      exact AtV.fin Tryz.func45 tabOk ext45Ok mixed (p45_0 x0 x1) ⟨b0, trivial⟩
    · rw [if_neg b0] at h
      replace b0 := Bool.eq_false_iff.2 b0
      exact AtV.runN tabOk ext45Ok mixed (p45_1 x0 x1) ⟨b0, trivial⟩ (ih4 _ _ _ _ h K q)

  · intro v5 x0 x1 ds h K q
    rw [R45_4] at h
    by_cases b0 : (decide (v5 < (↑(List.length x0) : Int))) = true
    · rw [if_pos b0] at h
      obtain ⟨s0, s1, h⟩ := h
      obtain ⟨s2, s3, h⟩ := h
      by_cases b1 : (!g96_0 (List.getD x0 (Int.toNat v5) (0, 0, 0, ())) (List.getD x1 (Int.toNat v5) (0, 0, 0, ()))) = true
      · rw [if_pos b1] at h
        subst h
        exact AtV.fin Tryz.func45 tabOk ext45Ok mixed (p45_2 v5 x0 x1) ⟨b0, s0, s1, s2, s3, trivial, b1, trivial⟩
      · rw [if_neg b1] at h
        replace b1 := Bool.eq_false_iff.2 b1
        obtain ⟨s4, h⟩ := h
        exact AtV.runN tabOk ext45Ok mixed (p45_3 v5 x0 x1) ⟨b0, s0, s1, s2, s3, trivial, b1, s4, trivial⟩ (ih4 _ _ _ _ h K q)
    · rw [if_neg b0] at h
      replace b0 := Bool.eq_false_iff.2 b0
      subst h
      exact AtV.fin Tryz.func45 tabOk ext45Ok mixed (p45_4 v5 x0 x1) ⟨b0, trivial⟩



theorem eq45 (x0 x1 : List TyB2) (hl : x0.length = x1.length) (hm : x0.length ≤ maxLen) : ∀ k i : Nat, i + k = x0.length → R45_4 (k + 1) (i : Int) x0 x1 [⟨.bool, decide (x0.drop i = x1.drop i)⟩] := by
  intro k
  induction k with
  | zero =>
    intro i hi
    have h1 : ¬ (i : Int) < (x0.length : Int) := by omega
    rw [R45_4, if_neg (by simpa using h1), drop_end x0 i (by omega), drop_end x1 i (by omega)]
    simp
  | succ k ih =>
    intro i hi
    have h1 : (i : Int) < (x0.length : Int) := by omega
    rw [R45_4, if_pos (by simpa using h1)]
    refine ⟨by omega, h1, by omega, by omega, ?_⟩
    simp only [Int.toNat_natCast]
    rw [drop_get x0 i ((0 : Int), (0 : Int), (0 : Int), ()) (by omega), drop_get x1 i ((0 : Int), (0 : Int), (0 : Int), ()) (by omega)]
    by_cases he : x0.getD i ((0 : Int), (0 : Int), (0 : Int), ()) = x1.getD i ((0 : Int), (0 : Int), (0 : Int), ())
    · have hd := (eqd96 _ _).2 he
      rw [if_neg (by rw [hd]; simp)]
      refine ⟨inR_up hm (by omega), ?_⟩
      have := ih (i + 1) (by omega)
      simp only [he, List.cons.injEq, true_and]
      exact this
    · have hd : g96_0 (x0.getD i ((0 : Int), (0 : Int), (0 : Int), ())) (x1.getD i ((0 : Int), (0 : Int), (0 : Int), ())) = false :=
        Bool.eq_false_iff.2 fun h => he ((eqd96 _ _).1 h)
      rw [if_pos (by rw [hd]; rfl)]
      simp only [he, List.cons.injEq, false_and, decide_false]

def g45_0 (x0 x1 : List TyB2) : Bool := decide (x0 = x1)
def P45 (x0 x1 : List TyB2) : Prop := True
def S45 : Am.Spec := { sig := sig45, pre := fun ⟨x0, x1, _⟩ => P45 x0 x1, res := fun ⟨x0, x1, _⟩ => [⟨Ty.bool, g45_0 x0 x1⟩] }
theorem con45 : Contract Tryz.prog 45 S45 := contract_of Tryz.func45 hb45 (Nat.le_of_ble_eq_true (by kernel_rfl)) (fun ⟨x0, x1, _⟩ h hwf K q => by
  refine (snd45 (x0.length + 2)).1 x0 x1 _ ?_ K q
  show R45 (x0.length + 1 + 1) x0 x1 [⟨Ty.bool, decide (x0 = x1)⟩]
  rw [R45]
  by_cases hl : x0.length = x1.length
  · rw [if_neg (by simp [hl])]
    have := eq45 x0 x1 hl hwf.1.1 x0.length 0 (by omega)
    simpa using this
  · rw [if_pos (by simp; omega)]
    have : x0 ≠ x1 := fun h => hl (by rw [h])
    simp [this])

end
end Go.Proofs.YtcakiedjgnhjcaaGreat

/- Function 46 (laws.eqMotor): its runs between cut points. Written by a program of this repo (gen). -/
set_option linter.unusedVariables false
set_option linter.unusedSimpArgs false
set_option maxRecDepth 100000
namespace Go.Proofs.YtcakiedjgnhjcaaGreat
open Go Go.Am Go.Proofs
noncomputable section
def ext46 : Ext := []
theorem ext46Ok : ExtOk Tryz.prog ext46 := trivial

noncomputable def b46 : Code := bodyOf Tryz.f46
theorem hb46 : Tryz.f46.body = some b46 := by kernel_rfl
def sig46 : List AT := [AT.v (Ty.cons (Ty.int .i64) (Ty.cons (Ty.int .i64) (Ty.cons (Ty.int .i64) Ty.unit))), AT.v (Ty.cons (Ty.int .i64) (Ty.cons (Ty.int .i64) (Ty.cons (Ty.int .i64) Ty.unit)))]
def tys46 : List Ty := [Ty.bool]
def kds46 : List RK := []
def oks46 : List AT := owns sig46
def P46 (x0 : Int × Int × Int × Unit) (x1 : Int × Int × Int × Unit) : Prop := True
def g46_0 (x0 : Int × Int × Int × Unit) (x1 : Int × Int × Int × Unit) : Bool := (if (x0.1 != x1.1) = true then false else (if (x0.2.1 != x1.2.1) = true then false else (if (x0.2.2.1 != x1.2.2.1) = true then false else true)))
theorem p46_0 (x0 : Int × Int × Int × Unit) (x1 : Int × Int × Int × Unit) : runF tab ext46 false 20 [] 2000 [] oks46 kds46 tys46 Tryz.f46.results [true] [.code b46] (entE 0 0 sig46 (x0, x1, ())) (entL sig46 (x0, x1, ())) = some ([Dyn.mk Ty.bool false], [], [(x0.1 != x1.1) = true]) := by kernel_rfl
theorem p46_1 (x0 : Int × Int × Int × Unit) (x1 : Int × Int × Int × Unit) : runF tab ext46 false 20 [] 2000 [] oks46 kds46 tys46 Tryz.f46.results [false, true] [.code b46] (entE 0 0 sig46 (x0, x1, ())) (entL sig46 (x0, x1, ())) = some ([Dyn.mk Ty.bool false], [], [(x0.1 != x1.1) = false, (x0.2.1 != x1.2.1) = true]) := by kernel_rfl
theorem p46_2 (x0 : Int × Int × Int × Unit) (x1 : Int × Int × Int × Unit) : runF tab ext46 false 20 [] 2000 [] oks46 kds46 tys46 Tryz.f46.results [false, false, true] [.code b46] (entE 0 0 sig46 (x0, x1, ())) (entL sig46 (x0, x1, ())) = some ([Dyn.mk Ty.bool false], [], [(x0.1 != x1.1) = false, (x0.2.1 != x1.2.1) = false, (x0.2.2.1 != x1.2.2.1) = true]) := by kernel_rfl
theorem p46_3 (x0 : Int × Int × Int × Unit) (x1 : Int × Int × Int × Unit) : runF tab ext46 false 20 [] 2000 [] oks46 kds46 tys46 Tryz.f46.results [false, false, false] [.code b46] (entE 0 0 sig46 (x0, x1, ())) (entL sig46 (x0, x1, ())) = some ([Dyn.mk Ty.bool true], [], [(x0.1 != x1.1) = false, (x0.2.1 != x1.2.1) = false, (x0.2.2.1 != x1.2.2.1) = false]) := by kernel_rfl
theorem at46 (x0 : Int × Int × Int × Unit) (x1 : Int × Int × Int × Unit) (h : P46 x0 x1) (K : Ctx) (q : Nat → Value) : AtV Tryz.prog 46 (PostR kds46 oks46 [⟨Ty.bool, g46_0 x0 x1⟩] [] [] q K) 20 K q [] [.code b46] (entE 0 0 sig46 (x0, x1, ())) (entL sig46 (x0, x1, ())) := by
  unfold P46 at h
  unfold g46_0
  by_cases b0 : (x0.1 != x1.1) = true
  · try simp only [if_pos b0] at h ⊢
    exact AtV.fin Tryz.func46 tabOk ext46Ok mixed (p46_0 x0 x1) ⟨b0, trivial⟩
  · try simp only [if_neg b0] at h ⊢
    replace b0 := Bool.eq_false_iff.2 b0
    by_cases b1 : (x0.2.1 != x1.2.1) = true
    · try simp only [if_pos b1] at h ⊢
      exact AtV.fin Tryz.func46 tabOk ext46Ok mixed (p46_1 x0 x1) ⟨b0, b1, trivial⟩
    · try simp only [if_neg b1] at h ⊢
      replace b1 := Bool.eq_false_iff.2 b1
      by_cases b2 : (x0.2.2.1 != x1.2.2.1) = true
      · try simp only [if_pos b2] at h ⊢
        exact AtV.fin Tryz.func46 tabOk ext46Ok mixed (p46_2 x0 x1) ⟨b0, b1, b2, trivial⟩
      · try simp only [if_neg b2] at h ⊢
        replace b2 := Bool.eq_false_iff.2 b2
        exact AtV.fin Tryz.func46 tabOk ext46Ok mixed (p46_3 x0 x1) ⟨b0, b1, b2, trivial⟩

def S46 : Am.Spec := { sig := sig46, pre := fun ⟨x0, x1, _⟩ => P46 x0 x1, res := fun ⟨x0, x1, _⟩ => [⟨Ty.bool, g46_0 x0 x1⟩], kds := kds46 }
theorem con46 : Contract Tryz.prog 46 S46 := contract_of Tryz.func46 hb46 (Nat.le_of_ble_eq_true (by kernel_rfl)) (fun ⟨x0, x1, _⟩ h _ K q => at46 x0 x1 h K q)


end
end Go.Proofs.YtcakiedjgnhjcaaGreat

/- Function 47 (laws.eqDoor): its runs between cut points. Written by a program of this repo (gen). -/
set_option linter.unusedVariables false
set_option linter.unusedSimpArgs false
set_option maxRecDepth 100000
namespace Go.Proofs.YtcakiedjgnhjcaaGreat
open Go Go.Am Go.Proofs
noncomputable section
def ext47 : Ext := []
theorem ext47Ok : ExtOk Tryz.prog ext47 := trivial

noncomputable def b47 : Code := bodyOf Tryz.f47
theorem hb47 : Tryz.f47.body = some b47 := by kernel_rfl
def sig47 : List AT := [AT.v (Ty.cons (Ty.int .i64) (Ty.cons (Ty.int .i64) (Ty.cons (Ty.int .i64) Ty.unit))), AT.v (Ty.cons (Ty.int .i64) (Ty.cons (Ty.int .i64) (Ty.cons (Ty.int .i64) Ty.unit)))]
def tys47 : List Ty := [Ty.bool]
def kds47 : List RK := []
def oks47 : List AT := owns sig47
def P47 (x0 : Int × Int × Int × Unit) (x1 : Int × Int × Int × Unit) : Prop := True
def g47_0 (x0 : Int × Int × Int × Unit) (x1 : Int × Int × Int × Unit) : Bool := (if (x0.1 != x1.1) = true then false else (if (x0.2.1 != x1.2.1) = true then false else (if (x0.2.2.1 != x1.2.2.1) = true then false else true)))
theorem p47_0 (x0 : Int × Int × Int × Unit) (x1 : Int × Int × Int × Unit) : runF tab ext47 false 20 [] 2000 [] oks47 kds47 tys47 Tryz.f47.results [true] [.code b47] (entE 0 0 sig47 (x0, x1, ())) (entL sig47 (x0, x1, ())) = some ([Dyn.mk Ty.bool false], [], [(x0.1 != x1.1) = true]) := by kernel_rfl
theorem p47_1 (x0 : Int × Int × Int × Unit) (x1 : Int × Int × Int × Unit) : runF tab ext47 false 20 [] 2000 [] oks47 kds47 tys47 Tryz.f47.results [false, true] [.code b47] (entE 0 0 sig47 (x0, x1, ())) (entL sig47 (x0, x1, ())) = some ([Dyn.mk Ty.bool false], [], [(x0.1 != x1.1) = false, (x0.2.1 != x1.2.1) = true]) := by kernel_rfl
theorem p47_2 (x0 : Int × Int × Int × Unit) (x1 : Int × Int × Int × Unit) : runF tab ext47 false 20 [] 2000 [] oks47 kds47 tys47 Tryz.f47.results [false, false, true] [.code b47] (entE 0 0 sig47 (x0, x1, ())) (entL sig47 (x0, x1, ())) = some ([Dyn.mk Ty.bool false], [], [(x0.1 != x1.1) = false, (x0.2.1 != x1.2.1) = false, (x0.2.2.1 != x1.2.2.1) = true]) := by kernel_rfl
theorem p47_3 (x0 : Int × Int × Int × Unit) (x1 : Int × Int × Int × Unit) : runF tab ext47 false 20 [] 2000 [] oks47 kds47 tys47 Tryz.f47.results [false, false, false] [.code b47] (entE 0 0 sig47 (x0, x1, ())) (entL sig47 (x0, x1, ())) = some ([Dyn.mk Ty.bool true], [], [(x0.1 != x1.1) = false, (x0.2.1 != x1.2.1) = false, (x0.2.2.1 != x1.2.2.1) = false]) := by kernel_rfl
theorem at47 (x0 : Int × Int × Int × Unit) (x1 : Int × Int × Int × Unit) (h : P47 x0 x1) (K : Ctx) (q : Nat → Value) : AtV Tryz.prog 47 (PostR kds47 oks47 [⟨Ty.bool, g47_0 x0 x1⟩] [] [] q K) 20 K q [] [.code b47] (entE 0 0 sig47 (x0, x1, ())) (entL sig47 (x0, x1, ())) := by
  unfold P47 at h
  unfold g47_0
  by_cases b0 : (x0.1 != x1.1) = true
  · try simp only [if_pos b0] at h ⊢
    exact AtV.fin Tryz.func47 tabOk ext47Ok mixed (p47_0 x0 x1) ⟨b0, trivial⟩
  · try simp only [if_neg b0] at h ⊢
    replace b0 := Bool.eq_false_iff.2 b0
    by_cases b1 : (x0.2.1 != x1.2.1) = true
    · try simp only [if_pos b1] at h ⊢
      exact AtV.fin Tryz.func47 tabOk ext47Ok mixed (p47_1 x0 x1) ⟨b0, b1, trivial⟩
    · try simp only [if_neg b1] at h ⊢
      replace b1 := Bool.eq_false_iff.2 b1
      by_cases b2 : (x0.2.2.1 != x1.2.2.1) = true
      · try simp only [if_pos b2] at h ⊢
        exact AtV.fin Tryz.func47 tabOk ext47Ok mixed (p47_2 x0 x1) ⟨b0, b1, b2, trivial⟩
      · try simp only [if_neg b2] at h ⊢
        replace b2 := Bool.eq_false_iff.2 b2
        exact AtV.fin Tryz.func47 tabOk ext47Ok mixed (p47_3 x0 x1) ⟨b0, b1, b2, trivial⟩

def S47 : Am.Spec := { sig := sig47, pre := fun ⟨x0, x1, _⟩ => P47 x0 x1, res := fun ⟨x0, x1, _⟩ => [⟨Ty.bool, g47_0 x0 x1⟩], kds := kds47 }
theorem con47 : Contract Tryz.prog 47 S47 := contract_of Tryz.func47 hb47 (Nat.le_of_ble_eq_true (by kernel_rfl)) (fun ⟨x0, x1, _⟩ h _ K q => at47 x0 x1 h K q)


end
end Go.Proofs.YtcakiedjgnhjcaaGreat

/- Function 97 (laws.eqWorker): its runs between cut points. Written by a program of this repo (gen). -/
set_option linter.unusedVariables false
set_option linter.unusedSimpArgs false
set_option maxRecDepth 100000
namespace Go.Proofs.YtcakiedjgnhjcaaGreat
open Go Go.Am Go.Proofs
noncomputable section
def ext97 : Ext := []
theorem ext97Ok : ExtOk Tryz.prog ext97 := trivial

noncomputable def b97 : Code := bodyOf Tryz.f97
theorem hb97 : Tryz.f97.body = some b97 := by kernel_rfl
def sig97 : List AT := [AT.v (Ty.cons Ty.str (Ty.cons (Ty.int .i64) (Ty.cons (Ty.int .i64) Ty.unit))), AT.v (Ty.cons Ty.str (Ty.cons (Ty.int .i64) (Ty.cons (Ty.int .i64) Ty.unit)))]
def tys97 : List Ty := [Ty.bool]
def kds97 : List RK := []
def oks97 : List AT := owns sig97
def P97 (x0 : ByteArray × Int × Int × Unit) (x1 : ByteArray × Int × Int × Unit) : Prop := True
def g97_0 (x0 : ByteArray × Int × Int × Unit) (x1 : ByteArray × Int × Int × Unit) : Bool := (if (!ByteArray.toList x0.1 == ByteArray.toList x1.1) = true then false else (if (x0.2.1 != x1.2.1) = true then false else (if (x0.2.2.1 != x1.2.2.1) = true then false else true)))
theorem p97_0 (x0 : ByteArray × Int × Int × Unit) (x1 : ByteArray × Int × Int × Unit) : runF tab ext97 false 20 [] 2000 [] oks97 kds97 tys97 Tryz.f97.results [true] [.code b97] (entE 0 0 sig97 (x0, x1, ())) (entL sig97 (x0, x1, ())) = some ([Dyn.mk Ty.bool false], [], [(!ByteArray.toList x0.1 == ByteArray.toList x1.1) = true]) := by kernel_rfl
theorem p97_1 (x0 : ByteArray × Int × Int × Unit) (x1 : ByteArray × Int × Int × Unit) : runF tab ext97 false 20 [] 2000 [] oks97 kds97 tys97 Tryz.f97.results [false, true] [.code b97] (entE 0 0 sig97 (x0, x1, ())) (entL sig97 (x0, x1, ())) = some ([Dyn.mk Ty.bool false], [], [(!ByteArray.toList x0.1 == ByteArray.toList x1.1) = false, (x0.2.1 != x1.2.1) = true]) := by kernel_rfl
theorem p97_2 (x0 : ByteArray × Int × Int × Unit) (x1 : ByteArray × Int × Int × Unit) : runF tab ext97 false 20 [] 2000 [] oks97 kds97 tys97 Tryz.f97.results [false, false, true] [.code b97] (entE 0 0 sig97 (x0, x1, ())) (entL sig97 (x0, x1, ())) = some ([Dyn.mk Ty.bool false], [], [(!ByteArray.toList x0.1 == ByteArray.toList x1.1) = false, (x0.2.1 != x1.2.1) = false, (x0.2.2.1 != x1.2.2.1) = true]) := by kernel_rfl
theorem p97_3 (x0 : ByteArray × Int × Int × Unit) (x1 : ByteArray × Int × Int × Unit) : runF tab ext97 false 20 [] 2000 [] oks97 kds97 tys97 Tryz.f97.results [false, false, false] [.code b97] (entE 0 0 sig97 (x0, x1, ())) (entL sig97 (x0, x1, ())) = some ([Dyn.mk Ty.bool true], [], [(!ByteArray.toList x0.1 == ByteArray.toList x1.1) = false, (x0.2.1 != x1.2.1) = false, (x0.2.2.1 != x1.2.2.1) = false]) := by kernel_rfl
theorem at97 (x0 : ByteArray × Int × Int × Unit) (x1 : ByteArray × Int × Int × Unit) (h : P97 x0 x1) (K : Ctx) (q : Nat → Value) : AtV Tryz.prog 97 (PostR kds97 oks97 [⟨Ty.bool, g97_0 x0 x1⟩] [] [] q K) 20 K q [] [.code b97] (entE 0 0 sig97 (x0, x1, ())) (entL sig97 (x0, x1, ())) := by
  unfold P97 at h
  unfold g97_0
  by_cases b0 : (!ByteArray.toList x0.1 == ByteArray.toList x1.1) = true
  · try simp only [if_pos b0] at h ⊢
    exact AtV.fin Tryz.func97 tabOk ext97Ok mixed (p97_0 x0 x1) ⟨b0, trivial⟩
  · try simp only [if_neg b0] at h ⊢
    replace b0 := Bool.eq_false_iff.2 b0
    by_cases b1 : (x0.2.1 != x1.2.1) = true
    · try simp only [if_pos b1] at h ⊢
      exact AtV.fin Tryz.func97 tabOk ext97Ok mixed (p97_1 x0 x1) ⟨b0, b1, trivial⟩
    · try simp only [if_neg b1] at h ⊢
      replace b1 := Bool.eq_false_iff.2 b1
      by_cases b2 : (x0.2.2.1 != x1.2.2.1) = true
      · try simp only [if_pos b2] at h ⊢
        exact AtV.fin Tryz.func97 tabOk ext97Ok mixed (p97_2 x0 x1) ⟨b0, b1, b2, trivial⟩
      · try simp only [if_neg b2] at h ⊢
        replace b2 := Bool.eq_false_iff.2 b2
        exact AtV.fin Tryz.func97 tabOk ext97Ok mixed (p97_3 x0 x1) ⟨b0, b1, b2, trivial⟩

def S97 : Am.Spec := { sig := sig97, pre := fun ⟨x0, x1, _⟩ => P97 x0 x1, res := fun ⟨x0, x1, _⟩ => [⟨Ty.bool, g97_0 x0 x1⟩], kds := kds97 }
theorem con97 : Contract Tryz.prog 97 S97 := contract_of Tryz.func97 hb97 (Nat.le_of_ble_eq_true (by kernel_rfl)) (fun ⟨x0, x1, _⟩ h _ K q => at97 x0 x1 h K q)


theorem eqd97 (x y : TyB1) : g97_0 x y = true ↔ x = y := by
  obtain ⟨a, b, c, u⟩ := x
  obtain ⟨a', b', c', u'⟩ := y
  unfold g97_0
  simp only [Bool.not_eq_true', bytes_ne, bne_iff_ne, ne_eq, ite_not]
  by_cases h0 : a = a'
  · by_cases h1 : b = b'
    · by_cases h2 : c = c'
      · simp [h0, h1, h2]
      · simp [h0, h1, h2]
    · simp [h0, h1]
  · simp [h0]

end
end Go.Proofs.YtcakiedjgnhjcaaGreat

/- Function 48 (laws.eqWorkerS): its runs between cut points. Written by a program of this repo (gen). -/
set_option linter.unusedVariables false
set_option linter.unusedSimpArgs false
set_option maxRecDepth 100000
namespace Go.Proofs.YtcakiedjgnhjcaaGreat
open Go Go.Am Go.Proofs
noncomputable section
def ext48 : Ext := [(97, S97)]
theorem call48_97 : Callable Tryz.prog 97 := ⟨Tryz.f97, Tryz.func97, by kernel_rfl, by kernel_rfl⟩
theorem ext48Ok : ExtOk Tryz.prog ext48 := ⟨⟨call48_97, con97⟩, trivial⟩

noncomputable def b48 : Code := bodyOf Tryz.f48
theorem hb48 : Tryz.f48.body = some b48 := by kernel_rfl
def sig48 : List AT := [AT.v (Ty.sl (Ty.cons Ty.str (Ty.cons (Ty.int .i64) (Ty.cons (Ty.int .i64) Ty.unit)))), AT.v (Ty.sl (Ty.cons Ty.str (Ty.cons (Ty.int .i64) (Ty.cons (Ty.int .i64) Ty.unit))))]
def tys48 : List Ty := [Ty.bool]
def kds48 : List RK := []
def oks48 : List AT := owns sig48
def E48_4 (v5 : Int) (x0 : List TyB1) (x1 : List TyB1) : Env := [(0, PV.a (Atom.sl (Ty.cons Ty.str (Ty.cons (Ty.int .i64) (Ty.cons (Ty.int .i64) Ty.unit))) x0)), (1, PV.a (Atom.sl (Ty.cons Ty.str (Ty.cons (Ty.int .i64) (Ty.cons (Ty.int .i64) Ty.unit))) x1)), (5, PV.a (Atom.val (Value.int .i64 v5)))]
def L48_4 (v5 : Int) (x0 : List TyB1) (x1 : List TyB1) : Heap := []
mutual
def R48 : Nat → List TyB1 → List TyB1 → List Dyn → Prop
  | 0, _, _, _ => False
  | n + 1, x0, x1, ds => (if ((↑(List.length x0) : Int) != (↑(List.length x1) : Int)) = true then (ds = [Dyn.mk Ty.bool false]) else (R48_4 n (0) (x0) (x1) ds))
def R48_4 : Nat → Int → List TyB1 → List TyB1 → List Dyn → Prop
  | 0, _, _, _, _ => False
  | n + 1, v5, x0, x1, ds => (if (decide (v5 < (↑(List.length x0) : Int))) = true then ((0 ≤ v5) ∧ (v5 < (↑(List.length x0) : Int)) ∧ ((0 ≤ v5) ∧ (v5 < (↑(List.length x1) : Int)) ∧ (if (!g97_0 (List.getD x0 (Int.toNat v5) (ByteArray.empty, 0, 0, ())) (List.getD x1 (Int.toNat v5) (ByteArray.empty, 0, 0, ()))) = true then (ds = [Dyn.mk Ty.bool false]) else ((InR .i64 (v5 + 1)) ∧ (R48_4 n (v5 + 1) (x0) (x1) ds))))) else (ds = [Dyn.mk Ty.bool true]))
end
theorem p48_0 (x0 : List TyB1) (x1 : List TyB1) : runF tab ext48 false 27 [] 2000 [] oks48 kds48 tys48 Tryz.f48.results [true] [.code b48] (entE 0 0 sig48 (x0, x1, ())) (entL sig48 (x0, x1, ())) = some ([Dyn.mk Ty.bool false], [], [((↑(List.length x0) : Int) != (↑(List.length x1) : Int)) = true]) := by kernel_rfl
theorem p48_1 (x0 : List TyB1) (x1 : List TyB1) : Am.runN tab ext48 false 27 [] 2000 [] [] [0, 1, 5] [] [false] [.code b48] (entE 0 0 sig48 (x0, x1, ())) (entL sig48 (x0, x1, ())) = some (cutAt b48 4, E48_4 (0) (x0) (x1), L48_4 (0) (x0) (x1), [((↑(List.length x0) : Int) != (↑(List.length x1) : Int)) = false]) := by kernel_rfl
theorem p48_2 (v5 : Int) (x0 : List TyB1) (x1 : List TyB1) : runF tab ext48 false 27 [] 2000 [] oks48 kds48 tys48 Tryz.f48.results [true, true] (cutAt b48 4) (E48_4 v5 x0 x1) (L48_4 v5 x0 x1) = some ([Dyn.mk Ty.bool false], [], [decide (v5 < (↑(List.length x0) : Int)) = true, 0 ≤ v5, v5 < (↑(List.length x0) : Int), 0 ≤ v5, v5 < (↑(List.length x1) : Int), True, (!g97_0 (List.getD x0 (Int.toNat v5) (ByteArray.empty, 0, 0, ())) (List.getD x1 (Int.toNat v5) (ByteArray.empty, 0, 0, ()))) = true]) := by kernel_rfl
theorem p48_3 (v5 : Int) (x0 : List TyB1) (x1 : List TyB1) : Am.runN tab ext48 false 27 [] 2000 [] [] [0, 1, 5] [] [true, false] (cutAt b48 4) (E48_4 v5 x0 x1) (L48_4 v5 x0 x1) = some (cutAt b48 4, E48_4 (v5 + 1) (x0) (x1), L48_4 (v5 + 1) (x0) (x1), [decide (v5 < (↑(List.length x0) : Int)) = true, 0 ≤ v5, v5 < (↑(List.length x0) : Int), 0 ≤ v5, v5 < (↑(List.length x1) : Int), True, (!g97_0 (List.getD x0 (Int.toNat v5) (ByteArray.empty, 0, 0, ())) (List.getD x1 (Int.toNat v5) (ByteArray.empty, 0, 0, ()))) = false, InR .i64 (v5 + 1)]) := by kernel_rfl
theorem p48_4 (v5 : Int) (x0 : List TyB1) (x1 : List TyB1) : runF tab ext48 false 27 [] 2000 [] oks48 kds48 tys48 Tryz.f48.results [false] (cutAt b48 4) (E48_4 v5 x0 x1) (L48_4 v5 x0 x1) = some ([Dyn.mk Ty.bool true], [], [decide (v5 < (↑(List.length x0) : Int)) = false]) := by kernel_rfl
theorem snd48 : ∀ n, (∀ (x0 : List TyB1) (x1 : List TyB1) ds, R48 n x0 x1 ds → ∀ K q, AtV Tryz.prog 48 (PostR kds48 oks48 ds [] [] q K) 27 K q [] [.code b48] (entE 0 0 sig48 (x0, x1, ())) (entL sig48 (x0, x1, ()))) ∧ (∀ (v5 : Int) (x0 : List TyB1) (x1 : List TyB1) ds, R48_4 n v5 x0 x1 ds → ∀ K q, AtV Tryz.prog 48 (PostR kds48 oks48 ds [] [] q K) 27 K q [] (cutAt b48 4) (E48_4 v5 x0 x1) (L48_4 v5 x0 x1)) := by
  intro n
  induction n with
  | zero => exact ⟨fun _ _ _ h => by simp only [R48] at h, fun _ _ _ _ h => by simp only [R48_4] at h⟩
  | succ n ih =>
  obtain ⟨ih, ih4⟩ := ih
  refine ⟨?_, ?_⟩
  · intro x0 x1 ds h K q
    rw [R48] at h
    by_cases b0 : ((↑(List.length x0) : Int) != (↑(List.length x1) : Int)) = true
    · rw [if_pos b0] at h
      subst h
      exact AtV.fin Tryz.func48 tabOk ext48Ok mixed (p48_0 x0 x1) ⟨b0, trivial⟩
    · rw [if_neg b0] at h
      replace b0 := Bool.eq_false_iff.2 b0
      exact AtV.runN tabOk ext48Ok mixed (p48_1 x0 x1) ⟨b0, trivial⟩ (ih4 _ _ _ _ h K q)

  · intro v5 x0 x1 ds h K q
    rw [R48_4] at h
    by_cases b0 : (decide (v5 < (↑(List.length x0) : Int))) = true
    · rw [if_pos b0] at h
      obtain ⟨s0, s1, h⟩ := h
      obtain ⟨s2, s3, h⟩ := h
      by_cases b1 : (!g97_0 (List.getD x0 (Int.toNat v5) (ByteArray.empty, 0, 0, ())) (List.getD x1 (Int.toNat v5) (ByteArray.empty, 0, 0, ()))) = true
      · rw [if_pos b1] at h
        subst h
        exact AtV.fin Tryz.func48 tabOk ext48Ok mixed (p48_2 v5 x0 x1) ⟨b0, s0, s1, s2, s3, trivial, b1, trivial⟩
      · rw [if_neg b1] at h
        replace b1 := Bool.eq_false_iff.2 b1
        obtain ⟨s4, h⟩ := h
        exact AtV.runN tabOk ext48Ok mixed (p48_3 v5 x0 x1) ⟨b0, s0, s1, s2, s3, trivial, b1, s4, trivial⟩ (ih4 _ _ _ _ h K q)
    · rw [if_neg b0] at h
      replace b0 := Bool.eq_false_iff.2 b0
      subst h
      exact AtV.fin Tryz.func48 tabOk ext48Ok mixed (p48_4 v5 x0 x1) ⟨b0, trivial⟩



theorem eq48 (x0 x1 : List TyB1) (hl : x0.length = x1.length) (hm : x0.length ≤ maxLen) : ∀ k i : Nat, i + k = x0.length → R48_4 (k + 1) (i : Int) x0 x1 [⟨.bool, decide (x0.drop i = x1.drop i)⟩] := by
  intro k
  induction k with
  | zero =>
    intro i hi
    have h1 : ¬ (i : Int) < (x0.length : Int) := by omega
    rw [R48_4, if_neg (by simpa using h1), drop_end x0 i (by omega), drop_end x1 i (by omega)]
    simp
  | succ k ih =>
    intro i hi
    have h1 : (i : Int) < (x0.length : Int) := by omega
    rw [R48_4, if_pos (by simpa using h1)]
    refine ⟨by omega, h1, by omega, by omega, ?_⟩
    simp only [Int.toNat_natCast]
    rw [drop_get x0 i (ByteArray.empty, (0 : Int), (0 : Int), ()) (by omega), drop_get x1 i (ByteArray.empty, (0 : Int), (0 : Int), ()) (by omega)]
    by_cases he : x0.getD i (ByteArray.empty, (0 : Int), (0 : Int), ()) = x1.getD i (ByteArray.empty, (0 : Int), (0 : Int), ())
    · have hd := (eqd97 _ _).2 he
      rw [if_neg (by rw [hd]; simp)]
      refine ⟨inR_up hm (by omega), ?_⟩
      have := ih (i + 1) (by omega)
      simp only [he, List.cons.injEq, true_and]
      exact this
    · have hd : g97_0 (x0.getD i (ByteArray.empty, (0 : Int), (0 : Int), ())) (x1.getD i (ByteArray.empty, (0 : Int), (0 : Int), ())) = false :=
        Bool.eq_false_iff.2 fun h => he ((eqd97 _ _).1 h)
      rw [if_pos (by rw [hd]; rfl)]
      simp only [he, List.cons.injEq, false_and, decide_false]

def g48_0 (x0 x1 : List TyB1) : Bool := decide (x0 = x1)
def P48 (x0 x1 : List TyB1) : Prop := True
def S48 : Am.Spec := { sig := sig48, pre := fun ⟨x0, x1, _⟩ => P48 x0 x1, res := fun ⟨x0, x1, _⟩ => [⟨Ty.bool, g48_0 x0 x1⟩] }
theorem con48 : Contract Tryz.prog 48 S48 := contract_of Tryz.func48 hb48 (Nat.le_of_ble_eq_true (by kernel_rfl)) (fun ⟨x0, x1, _⟩ h hwf K q => by
  refine (snd48 (x0.length + 2)).1 x0 x1 _ ?_ K q
  show R48 (x0.length + 1 + 1) x0 x1 [⟨Ty.bool, decide (x0 = x1)⟩]
  rw [R48]
  by_cases hl : x0.length = x1.length
  · rw [if_neg (by simp [hl])]
    have := eq48 x0 x1 hl hwf.1.1 x0.length 0 (by omega)
    simpa using this
  · rw [if_pos (by simp; omega)]
    have : x0 ≠ x1 := fun h => hl (by rw [h])
    simp [this])

end
end Go.Proofs.YtcakiedjgnhjcaaGreat

/- Function 49 (laws.eqBasin): its runs between cut points. Written by a program of this repo (gen). -/
set_option linter.unusedVariables false
set_option linter.unusedSimpArgs false
set_option maxRecDepth 100000
namespace Go.Proofs.YtcakiedjgnhjcaaGreat
open Go Go.Am Go.Proofs
noncomputable section
def ext49 : Ext := []
theorem ext49Ok : ExtOk Tryz.prog ext49 := trivial

noncomputable def b49 : Code := bodyOf Tryz.f49
theorem hb49 : Tryz.f49.body = some b49 := by kernel_rfl
def sig49 : List AT := [AT.v (Ty.cons (Ty.int .i64) (Ty.cons (Ty.int .i64) (Ty.cons (Ty.int .i64) (Ty.cons (Ty.int .i64) Ty.unit)))), AT.v (Ty.cons (Ty.int .i64) (Ty.cons (Ty.int .i64) (Ty.cons (Ty.int .i64) (Ty.cons (Ty.int .i64) Ty.unit))))]
def tys49 : List Ty := [Ty.bool]
def kds49 : List RK := []
def oks49 : List AT := owns sig49
def P49 (x0 : Int × Int × Int × Int × Unit) (x1 : Int × Int × Int × Int × Unit) : Prop := True
def g49_0 (x0 : Int × Int × Int × Int × Unit) (x1 : Int × Int × Int × Int × Unit) : Bool := (if (x0.1 != x1.1) = true then false else (if (x0.2.1 != x1.2.1) = true then false else (if (x0.2.2.1 != x1.2.2.1) = true then false else (if (x0.2.2.2.1 != x1.2.2.2.1) = true then false else true))))
theorem p49_0 (x0 : Int × Int × Int × Int × Unit) (x1 : Int × Int × Int × Int × Unit) : runF tab ext49 false 25 [] 2000 [] oks49 kds49 tys49 Tryz.f49.results [true] [.code b49] (entE 0 0 sig49 (x0, x1, ())) (entL sig49 (x0, x1, ())) = some ([Dyn.mk Ty.bool false], [], [(x0.1 != x1.1) = true]) := by kernel_rfl
theorem p49_1 (x0 : Int × Int × Int × Int × Unit) (x1 : Int × Int × Int × Int × Unit) : runF tab ext49 false 25 [] 2000 [] oks49 kds49 tys49 Tryz.f49.results [false, true] [.code b49] (entE 0 0 sig49 (x0, x1, ())) (entL sig49 (x0, x1, ())) = some ([Dyn.mk Ty.bool false], [], [(x0.1 != x1.1) = false, (x0.2.1 != x1.2.1) = true]) := by kernel_rfl
theorem p49_2 (x0 : Int × Int × Int × Int × Unit) (x1 : Int × Int × Int × Int × Unit) : runF tab ext49 false 25 [] 2000 [] oks49 kds49 tys49 Tryz.f49.results [false, false, true] [.code b49] (entE 0 0 sig49 (x0, x1, ())) (entL sig49 (x0, x1, ())) = some ([Dyn.mk Ty.bool false], [], [(x0.1 != x1.1) = false, (x0.2.1 != x1.2.1) = false, (x0.2.2.1 != x1.2.2.1) = true]) := by kernel_rfl
theorem p49_3 (x0 : Int × Int × Int × Int × Unit) (x1 : Int × Int × Int × Int × Unit) : runF tab ext49 false 25 [] 2000 [] oks49 kds49 tys49 Tryz.f49.results [false, false, false, true] [.code b49] (entE 0 0 sig49 (x0, x1, ())) (entL sig49 (x0, x1, ())) = some ([Dyn.mk Ty.bool false], [], [(x0.1 != x1.1) = false, (x0.2.1 != x1.2.1) = false, (x0.2.2.1 != x1.2.2.1) = false, (x0.2.2.2.1 != x1.2.2.2.1) = true]) := by kernel_rfl
theorem p49_4 (x0 : Int × Int × Int × Int × Unit) (x1 : Int × Int × Int × Int × Unit) : runF tab ext49 false 25 [] 2000 [] oks49 kds49 tys49 Tryz.f49.results [false, false, false, false] [.code b49] (entE 0 0 sig49 (x0, x1, ())) (entL sig49 (x0, x1, ())) = some ([Dyn.mk Ty.bool true], [], [(x0.1 != x1.1) = false, (x0.2.1 != x1.2.1) = false, (x0.2.2.1 != x1.2.2.1) = false, (x0.2.2.2.1 != x1.2.2.2.1) = false]) := by kernel_rfl
theorem at49 (x0 : Int × Int × Int × Int × Unit) (x1 : Int × Int × Int × Int × Unit) (h : P49 x0 x1) (K : Ctx) (q : Nat → Value) : AtV Tryz.prog 49 (PostR kds49 oks49 [⟨Ty.bool, g49_0 x0 x1⟩] [] [] q K) 25 K q [] [.code b49] (entE 0 0 sig49 (x0, x1, ())) (entL sig49 (x0, x1, ())) := by
  unfold P49 at h
  unfold g49_0
  by_cases b0 : (x0.1 != x1.1) = true
  · try simp only [if_pos b0] at h ⊢
    exact AtV.fin Tryz.func49 tabOk ext49Ok mixed (p49_0 x0 x1) ⟨b0, trivial⟩
  · try simp only [if_neg b0] at h ⊢
    replace b0 := Bool.eq_false_iff.2 b0
    by_cases b1 : (x0.2.1 != x1.2.1) = true
    · try simp only [if_pos b1] at h ⊢
      exact AtV.fin Tryz.func49 tabOk ext49Ok mixed (p49_1 x0 x1) ⟨b0, b1, trivial⟩
    · try simp only [if_neg b1] at h ⊢
      replace b1 := Bool.eq_false_iff.2 b1
      by_cases b2 : (x0.2.2.1 != x1.2.2.1) = true
      · try simp only [if_pos b2] at h ⊢
        exact AtV.fin Tryz.func49 tabOk ext49Ok mixed (p49_2 x0 x1) ⟨b0, b1, b2, trivial⟩
      · try simp only [if_neg b2] at h ⊢
        replace b2 := Bool.eq_false_iff.2 b2
        by_cases b3 : (x0.2.2.2.1 != x1.2.2.2.1) = true
        · try simp only [if_pos b3] at h ⊢
          exact AtV.fin Tryz.func49 tabOk ext49Ok mixed (p49_3 x0 x1) ⟨b0, b1, b2, b3, trivial⟩
        · try simp only [if_neg b3] at h ⊢
          replace b3 := Bool.eq_false_iff.2 b3
          exact AtV.fin Tryz.func49 tabOk ext49Ok mixed (p49_4 x0 x1) ⟨b0, b1, b2, b3, trivial⟩

def S49 : Am.Spec := { sig := sig49, pre := fun ⟨x0, x1, _⟩ => P49 x0 x1, res := fun ⟨x0, x1, _⟩ => [⟨Ty.bool, g49_0 x0 x1⟩], kds := kds49 }
theorem con49 : Contract Tryz.prog 49 S49 := contract_of Tryz.func49 hb49 (Nat.le_of_ble_eq_true (by kernel_rfl)) (fun ⟨x0, x1, _⟩ h _ K q => at49 x0 x1 h K q)


end
end Go.Proofs.YtcakiedjgnhjcaaGreat

/- Function 98 (laws.eqFare): its runs between cut points. Written by a program of this repo (gen). -/
set_option linter.unusedVariables false
set_option linter.unusedSimpArgs false
set_option maxRecDepth 100000
namespace Go.Proofs.YtcakiedjgnhjcaaGreat
open Go Go.Am Go.Proofs
noncomputable section
def ext98 : Ext := []
theorem ext98Ok : ExtOk Tryz.prog ext98 := trivial

noncomputable def b98 : Code := bodyOf Tryz.f98
theorem hb98 : Tryz.f98.body = some b98 := by kernel_rfl
def sig98 : List AT := [AT.v (Ty.cons Ty.str (Ty.cons (Ty.int .i64) (Ty.cons (Ty.int .i64) (Ty.cons (Ty.int .i64) Ty.unit)))), AT.v (Ty.cons Ty.str (Ty.cons (Ty.int .i64) (Ty.cons (Ty.int .i64) (Ty.cons (Ty.int .i64) Ty.unit))))]
def tys98 : List Ty := [Ty.bool]
def kds98 : List RK := []
def oks98 : List AT := owns sig98
def P98 (x0 : ByteArray × Int × Int × Int × Unit) (x1 : ByteArray × Int × Int × Int × Unit) : Prop := True
def g98_0 (x0 : ByteArray × Int × Int × Int × Unit) (x1 : ByteArray × Int × Int × Int × Unit) : Bool := (if (!ByteArray.toList x0.1 == ByteArray.toList x1.1) = true then false else (if (x0.2.1 != x1.2.1) = true then false else (if (x0.2.2.1 != x1.2.2.1) = true then false else (if (x0.2.2.2.1 != x1.2.2.2.1) = true then false else true))))
theorem p98_0 (x0 : ByteArray × Int × Int × Int × Unit) (x1 : ByteArray × Int × Int × Int × Unit) : runF tab ext98 false 25 [] 2000 [] oks98 kds98 tys98 Tryz.f98.results [true] [.code b98] (entE 0 0 sig98 (x0, x1, ())) (entL sig98 (x0, x1, ())) = some ([Dyn.mk Ty.bool false], [], [(!ByteArray.toList x0.1 == ByteArray.toList x1.1) = true]) := by kernel_rfl
theorem p98_1 (x0 : ByteArray × Int × Int × Int × Unit) (x1 : ByteArray × Int × Int × Int × Unit) : runF tab ext98 false 25 [] 2000 [] oks98 kds98 tys98 Tryz.f98.results [false, true] [.code b98] (entE 0 0 sig98 (x0, x1, ())) (entL sig98 (x0, x1, ())) = some ([Dyn.mk Ty.bool false], [], [(!ByteArray.toList x0.1 == ByteArray.toList x1.1) = false, (x0.2.1 != x1.2.1) = true]) := by kernel_rfl
theorem p98_2 (x0 : ByteArray × Int × Int × Int × Unit) (x1 : ByteArray × Int × Int × Int × Unit) : runF tab ext98 false 25 [] 2000 [] oks98 kds98 tys98 Tryz.f98.results [false, false, true] [.code b98] (entE 0 0 sig98 (x0, x1, ())) (entL sig98 (x0, x1, ())) = some ([Dyn.mk Ty.bool false], [], [(!ByteArray.toList x0.1 == ByteArray.toList x1.1) = false, (x0.2.1 != x1.2.1) = false, (x0.2.2.1 != x1.2.2.1) = true]) := by kernel_rfl
theorem p98_3 (x0 : ByteArray × Int × Int × Int × Unit) (x1 : ByteArray × Int × Int × Int × Unit) : runF tab ext98 false 25 [] 2000 [] oks98 kds98 tys98 Tryz.f98.results [false, false, false, true] [.code b98] (entE 0 0 sig98 (x0, x1, ())) (entL sig98 (x0, x1, ())) = some ([Dyn.mk Ty.bool false], [], [(!ByteArray.toList x0.1 == ByteArray.toList x1.1) = false, (x0.2.1 != x1.2.1) = false, (x0.2.2.1 != x1.2.2.1) = false, (x0.2.2.2.1 != x1.2.2.2.1) = true]) := by kernel_rfl
theorem p98_4 (x0 : ByteArray × Int × Int × Int × Unit) (x1 : ByteArray × Int × Int × Int × Unit) : runF tab ext98 false 25 [] 2000 [] oks98 kds98 tys98 Tryz.f98.results [false, false, false, false] [.code b98] (entE 0 0 sig98 (x0, x1, ())) (entL sig98 (x0, x1, ())) = some ([Dyn.mk Ty.bool true], [], [(!ByteArray.toList x0.1 == ByteArray.toList x1.1) = false, (x0.2.1 != x1.2.1) = false, (x0.2.2.1 != x1.2.2.1) = false, (x0.2.2.2.1 != x1.2.2.2.1) = false]) := by kernel_rfl
theorem at98 (x0 : ByteArray × Int × Int × Int × Unit) (x1 : ByteArray × Int × Int × Int × Unit) (h : P98 x0 x1) (K : Ctx) (q : Nat → Value) : AtV Tryz.prog 98 (PostR kds98 oks98 [⟨Ty.bool, g98_0 x0 x1⟩] [] [] q K) 25 K q [] [.code b98] (entE 0 0 sig98 (x0, x1, ())) (entL sig98 (x0, x1, ())) := by
  unfold P98 at h
  unfold g98_0
  by_cases b0 : (!ByteArray.toList x0.1 == ByteArray.toList x1.1) = true
  · try simp only [if_pos b0] at h ⊢
    exact AtV.fin Tryz.func98 tabOk ext98Ok mixed (p98_0 x0 x1) ⟨b0, trivial⟩
  · try simp only [if_neg b0] at h ⊢
    replace b0 := Bool.eq_false_iff.2 b0
    by_cases b1 : (x0.2.1 != x1.2.1) = true
    · try simp only [if_pos b1] at h ⊢
      exact AtV.fin Tryz.func98 tabOk ext98Ok mixed (p98_1 x0 x1) ⟨b0, b1, trivial⟩
    · try simp only [if_neg b1] at h ⊢
      replace b1 := Bool.eq_false_iff.2 b1
      by_cases b2 : (x0.2.2.1 != x1.2.2.1) = true
      · try simp only [if_pos b2] at h ⊢
        exact AtV.fin Tryz.func98 tabOk ext98Ok mixed (p98_2 x0 x1) ⟨b0, b1, b2, trivial⟩
      · try simp only [if_neg b2] at h ⊢
        replace b2 := Bool.eq_false_iff.2 b2
        by_cases b3 : (x0.2.2.2.1 != x1.2.2.2.1) = true
        · try simp only [if_pos b3] at h ⊢
          exact AtV.fin Tryz.func98 tabOk ext98Ok mixed (p98_3 x0 x1) ⟨b0, b1, b2, b3, trivial⟩
        · try simp only [if_neg b3] at h ⊢
          replace b3 := Bool.eq_false_iff.2 b3
          exact AtV.fin Tryz.func98 tabOk ext98Ok mixed (p98_4 x0 x1) ⟨b0, b1, b2, b3, trivial⟩

def S98 : Am.Spec := { sig := sig98, pre := fun ⟨x0, x1, _⟩ => P98 x0 x1, res := fun ⟨x0, x1, _⟩ => [⟨Ty.bool, g98_0 x0 x1⟩], kds := kds98 }
theorem con98 : Contract Tryz.prog 98 S98 := contract_of Tryz.func98 hb98 (Nat.le_of_ble_eq_true (by kernel_rfl)) (fun ⟨x0, x1, _⟩ h _ K q => at98 x0 x1 h K q)


theorem eqd98 (x y : TyB0) : g98_0 x y = true ↔ x = y := by
  obtain ⟨a, b, c, d, u⟩ := x
  obtain ⟨a', b', c', d', u'⟩ := y
  unfold g98_0
  simp only [Bool.not_eq_true', bytes_ne, bne_iff_ne, ne_eq, ite_not]
  by_cases h0 : a = a'
  · by_cases h1 : b = b'
    · by_cases h2 : c = c'
      · by_cases h3 : d = d'
        · simp [h0, h1, h2, h3]
        · simp [h0, h1, h2, h3]
      · simp [h0, h1, h2]
    · simp [h0, h1]
  · simp [h0]

end
end Go.Proofs.YtcakiedjgnhjcaaGreat

/- Function 50 (laws.eqFareS): its runs between cut points. Written by a program of this repo (gen). -/
set_option linter.unusedVariables false
set_option linter.unusedSimpArgs false
set_option maxRecDepth 100000
namespace Go.Proofs.YtcakiedjgnhjcaaGreat
open Go Go.Am Go.Proofs
noncomputable section
def ext50 : Ext := [(98, S98)]
theorem call50_98 : Callable Tryz.prog 98 := ⟨Tryz.f98, Tryz.func98, by kernel_rfl, by kernel_rfl⟩
theorem ext50Ok : ExtOk Tryz.prog ext50 := ⟨⟨call50_98, con98⟩, trivial⟩

noncomputable def b50 : Code := bodyOf Tryz.f50
theorem hb50 : Tryz.f50.body = some b50 := by kernel_rfl
def sig50 : List AT := [AT.v (Ty.sl (Ty.cons Ty.str (Ty.cons (Ty.int .i64) (Ty.cons (Ty.int .i64) (Ty.cons (Ty.int .i64) Ty.unit))))), AT.v (Ty.sl (Ty.cons Ty.str (Ty.cons (Ty.int .i64) (Ty.cons (Ty.int .i64) (Ty.cons (Ty.int .i64) Ty.unit)))))]
def tys50 : List Ty := [Ty.bool]
def kds50 : List RK := []
def oks50 : List AT := owns sig50
def E50_4 (v5 : Int) (x0 : List TyB0) (x1 : List TyB0) : Env := [(0, PV.a (Atom.sl (Ty.cons Ty.str (Ty.cons (Ty.int .i64) (Ty.cons (Ty.int .i64) (Ty.cons (Ty.int .i64) Ty.unit)))) x0)), (1, PV.a (Atom.sl (Ty.cons Ty.str (Ty.cons (Ty.int .i64) (Ty.cons (Ty.int .i64) (Ty.cons (Ty.int .i64) Ty.unit)))) x1)), (5, PV.a (Atom.val (Value.int .i64 v5)))]
def L50_4 (v5 : Int) (x0 : List TyB0) (x1 : List TyB0) : Heap := []
mutual
def R50 : Nat → List TyB0 → List TyB0 → List Dyn → Prop
  | 0, _, _, _ => False
  | n + 1, x0, x1, ds => (if ((↑(List.length x0) : Int) != (↑(List.length x1) : Int)) = true then (ds = [Dyn.mk Ty.bool false]) else (R50_4 n (0) (x0) (x1) ds))
def R50_4 : Nat → Int → List TyB0 → List TyB0 → List Dyn → Prop
  | 0, _, _, _, _ => False
  | n + 1, v5, x0, x1, ds => (if (decide (v5 < (↑(List.length x0) : Int))) = true then ((0 ≤ v5) ∧ (v5 < (↑(List.length x0) : Int)) ∧ ((0 ≤ v5) ∧ (v5 < (↑(List.length x1) : Int)) ∧ (if (!g98_0 (List.getD x0 (Int.toNat v5) (ByteArray.empty, 0, 0, 0, ())) (List.getD x1 (Int.toNat v5) (ByteArray.empty, 0, 0, 0, ()))) = true then (ds = [Dyn.mk Ty.bool false]) else ((InR .i64 (v5 + 1)) ∧ (R50_4 n (v5 + 1) (x0) (x1) ds))))) else (ds = [Dyn.mk Ty.bool true]))
end
theorem p50_0 (x0 : List TyB0) (x1 : List TyB0) : runF tab ext50 false 27 [] 2000 [] oks50 kds50 tys50 Tryz.f50.results [true] [.code b50] (entE 0 0 sig50 (x0, x1, ())) (entL sig50 (x0, x1, ())) = some ([Dyn.mk Ty.bool false], [], [((↑(List.length x0) : Int) != (↑(List.length x1) : Int)) = true]) := by kernel_rfl
theorem p50_1 (x0 : List TyB0) (x1 : List TyB0) : Am.runN tab ext50 false 27 [] 2000 [] [] [0, 1, 5] [] [false] [.code b50] (entE 0 0 sig50 (x0, x1, ())) (entL sig50 (x0, x1, ())) = some (cutAt b50 4, E50_4 (0) (x0) (x1), L50_4 (0) (x0) (x1), [((↑(List.length x0) : Int) != (↑(List.length x1) : Int)) = false]) := by kernel_rfl
theorem p50_2 (v5 : Int) (x0 : List TyB0) (x1 : List TyB0) : runF tab ext50 false 27 [] 2000 [] oks50 kds50 tys50 Tryz.f50.results [true, true] (cutAt b50 4) (E50_4 v5 x0 x1) (L50_4 v5 x0 x1) = some ([Dyn.mk Ty.bool false], [], [decide (v5 < (↑(List.length x0) : Int)) = true, 0 ≤ v5, v5 < (↑(List.length x0) : Int), 0 ≤ v5, v5 < (↑(List.length x1) : Int), True, (!g98_0 (List.getD x0 (Int.toNat v5) (ByteArray.empty, 0, 0, 0, ())) (List.getD x1 (Int.toNat v5) (ByteArray.empty, 0, 0, 0, ()))) = true]) := by kernel_rfl
theorem p50_3 (v5 : Int) (x0 : List TyB0) (x1 : List TyB0) : Am.runN tab ext50 false 27 [] 2000 [] [] [0, 1, 5] [] [true, false] (cutAt b50 4) (E50_4 v5 x0 x1) (L50_4 v5 x0 x1) = some (cutAt b50 4, E50_4 (v5 + 1) (x0) (x1), L50_4 (v5 + 1) (x0) (x1), [decide (v5 < (↑(List.length x0) : Int)) = true, 0 ≤ v5, v5 < (↑(List.length x0) : Int), 0 ≤ v5, v5 < (↑(List.length x1) : Int), True, (!g98_0 (List.getD x0 (Int.toNat v5) (ByteArray.empty, 0, 0, 0, ())) (List.getD x1 (Int.toNat v5) (ByteArray.empty, 0, 0, 0, ()))) = false, InR .i64 (v5 + 1)]) := by kernel_rfl
theorem p50_4 (v5 : Int) (x0 : List TyB0) (x1 : List TyB0) : runF tab ext50 false 27 [] 2000 [] oks50 kds50 tys50 Tryz.f50.results [false] (cutAt b50 4) (E50_4 v5 x0 x1) (L50_4 v5 x0 x1) = some ([Dyn.mk Ty.bool true], [], [decide (v5 < (↑(List.length x0) : Int)) = false]) := by kernel_rfl
theorem snd50 : ∀ n, (∀ (x0 : List TyB0) (x1 : List TyB0) ds, R50 n x0 x1 ds → ∀ K q, AtV Tryz.prog 50 (PostR kds50 oks50 ds [] [] q K) 27 K q [] [.code b50] (entE 0 0 sig50 (x0, x1, ())) (entL sig50 (x0, x1, ()))) ∧ (∀ (v5 : Int) (x0 : List TyB0) (x1 : List TyB0) ds, R50_4 n v5 x0 x1 ds → ∀ K q, AtV Tryz.prog 50 (PostR kds50 oks50 ds [] [] q K) 27 K q [] (cutAt b50 4) (E50_4 v5 x0 x1) (L50_4 v5 x0 x1)) := by
  intro n
  induction n with
  | zero => exact ⟨fun _ _ _ h => by simp only [R50] at h, fun _ _ _ _ h => by simp only [R50_4] at h⟩
  | succ n ih =>
  obtain ⟨ih, ih4⟩ := ih
  refine ⟨?_, ?_⟩
  · intro x0 x1 ds h K q
    rw [R50] at h
    by_cases b0 : ((↑(List.length x0) : Int) != (↑(List.length x1) : Int)) = true
    · rw [if_pos b0] at h
      subst h
      exact AtV.fin Tryz.func50 tabOk ext50Ok mixed (p50_0 x0 x1) ⟨b0, trivial⟩
    · rw [if_neg b0] at h
      replace b0 := Bool.eq_false_iff.2 b0
      exact AtV.runN tabOk ext50Ok mixed (p50_1 x0 x1) ⟨b0, trivial⟩ (ih4 _ _ _ _ h K q)

  · intro v5 x0 x1 ds h K q
    rw [R50_4] at h
    by_cases b0 : (decide (v5 < (↑(List.length x0) : Int))) = true
    · rw [if_pos b0] at h
      obtain ⟨s0, s1, h⟩ := h
      obtain ⟨s2, s3, h⟩ := h
      by_cases b1 : (!g98_0 (List.getD x0 (Int.toNat v5) (ByteArray.empty, 0, 0, 0, ())) (List.getD x1 (Int.toNat v5) (ByteArray.empty, 0, 0, 0, ()))) = true
      · rw [if_pos b1] at h
        subst h
        exact AtV.fin Tryz.func50 tabOk ext50Ok mixed (p50_2 v5 x0 x1) ⟨b0, s0, s1, s2, s3, trivial, b1, trivial⟩
      · rw [if_neg b1] at h
        replace b1 := Bool.eq_false_iff.2 b1
        obtain ⟨s4, h⟩ := h
        exact AtV.runN tabOk ext50Ok mixed (p50_3 v5 x0 x1) ⟨b0, s0, s1, s2, s3, trivial, b1, s4, trivial⟩ (ih4 _ _ _ _ h K q)
    · rw [if_neg b0] at h
      replace b0 := Bool.eq_false_iff.2 b0
      subst h
      exact AtV.fin Tryz.func50 tabOk ext50Ok mixed (p50_4 v5 x0 x1) ⟨b0, trivial⟩



theorem eq50 (x0 x1 : List TyB0) (hl : x0.length = x1.length) (hm : x0.length ≤ maxLen) : ∀ k i : Nat, i + k = x0.length → R50_4 (k + 1) (i : Int) x0 x1 [⟨.bool, decide (x0.drop i = x1.drop i)⟩] := by
  intro k
  induction k with
  | zero =>
    intro i hi
    have h1 : ¬ (i : Int) < (x0.length : Int) := by omega
    rw [R50_4, if_neg (by simpa using h1), drop_end x0 i (by omega), drop_end x1 i (by omega)]
    simp
  | succ k ih =>
    intro i hi
    have h1 : (i : Int) < (x0.length : Int) := by omega
    rw [R50_4, if_pos (by simpa using h1)]
    refine ⟨by omega, h1, by omega, by omega, ?_⟩
    simp only [Int.toNat_natCast]
    rw [drop_get x0 i (ByteArray.empty, (0 : Int), (0 : Int), (0 : Int), ()) (by omega), drop_get x1 i (ByteArray.empty, (0 : Int), (0 : Int), (0 : Int), ()) (by omega)]
    by_cases he : x0.getD i (ByteArray.empty, (0 : Int), (0 : Int), (0 : Int), ()) = x1.getD i (ByteArray.empty, (0 : Int), (0 : Int), (0 : Int), ())
    · have hd := (eqd98 _ _).2 he
      rw [if_neg (by rw [hd]; simp)]
      refine ⟨inR_up hm (by omega), ?_⟩
      have := ih (i + 1) (by omega)
      simp only [he, List.cons.injEq, true_and]
      exact this
    · have hd : g98_0 (x0.getD i (ByteArray.empty, (0 : Int), (0 : Int), (0 : Int), ())) (x1.getD i (ByteArray.empty, (0 : Int), (0 : Int), (0 : Int), ())) = false :=
        Bool.eq_false_iff.2 fun h => he ((eqd98 _ _).1 h)
      rw [if_pos (by rw [hd]; rfl)]
      simp only [he, List.cons.injEq, false_and, decide_false]

def g50_0 (x0 x1 : List TyB0) : Bool := decide (x0 = x1)
def P50 (x0 x1 : List TyB0) : Prop := True
def S50 : Am.Spec := { sig := sig50, pre := fun ⟨x0, x1, _⟩ => P50 x0 x1, res := fun ⟨x0, x1, _⟩ => [⟨Ty.bool, g50_0 x0 x1⟩] }
theorem con50 : Contract Tryz.prog 50 S50 := contract_of Tryz.func50 hb50 (Nat.le_of_ble_eq_true (by kernel_rfl)) (fun ⟨x0, x1, _⟩ h hwf K q => by
  refine (snd50 (x0.length + 2)).1 x0 x1 _ ?_ K q
  show R50 (x0.length + 1 + 1) x0 x1 [⟨Ty.bool, decide (x0 = x1)⟩]
  rw [R50]
  by_cases hl : x0.length = x1.length
  · rw [if_neg (by simp [hl])]
    have := eq50 x0 x1 hl hwf.1.1 x0.length 0 (by omega)
    simpa using this
  · rw [if_pos (by simp; omega)]
    have : x0 ≠ x1 := fun h => hl (by rw [h])
    simp [this])

end
end Go.Proofs.YtcakiedjgnhjcaaGreat

/- Function 99 (laws.eqTest): its runs between cut points. Written by a program of this repo (gen). -/
set_option linter.unusedVariables false
set_option linter.unusedSimpArgs false
set_option maxRecDepth 100000
namespace Go.Proofs.YtcakiedjgnhjcaaGreat
open Go Go.Am Go.Proofs
noncomputable section
def ext99 : Ext := []
theorem ext99Ok : ExtOk Tryz.prog ext99 := trivial

noncomputable def b99 : Code := bodyOf Tryz.f99
theorem hb99 : Tryz.f99.body = some b99 := by kernel_rfl
def sig99 : List AT := [AT.v (Ty.cons (Ty.int .i64) (Ty.cons (Ty.int .i64) (Ty.cons (Ty.int .i64) Ty.unit))), AT.v (Ty.cons (Ty.int .i64) (Ty.cons (Ty.int .i64) (Ty.cons (Ty.int .i64) Ty.unit)))]
def tys99 : List Ty := [Ty.bool]
def kds99 : List RK := []
def oks99 : List AT := owns sig99
def P99 (x0 : Int × Int × Int × Unit) (x1 : Int × Int × Int × Unit) : Prop := True
def g99_0 (x0 : Int × Int × Int × Unit) (x1 : Int × Int × Int × Unit) : Bool := (if (x0.1 != x1.1) = true then false else (if (x0.2.1 != x1.2.1) = true then false else (if (x0.2.2.1 != x1.2.2.1) = true then false else true)))
theorem p99_0 (x0 : Int × Int × Int × Unit) (x1 : Int × Int × Int × Unit) : runF tab ext99 false 20 [] 2000 [] oks99 kds99 tys99 Tryz.f99.results [true] [.code b99] (entE 0 0 sig99 (x0, x1, ())) (entL sig99 (x0, x1, ())) = some ([Dyn.mk Ty.bool false], [], [(x0.1 != x1.1) = true]) := by kernel_rfl
theorem p99_1 (x0 : Int × Int × Int × Unit) (x1 : Int × Int × Int × Unit) : runF tab ext99 false 20 [] 2000 [] oks99 kds99 tys99 Tryz.f99.results [false, true] [.code b99] (entE 0 0 sig99 (x0, x1, ())) (entL sig99 (x0, x1, ())) = some ([Dyn.mk Ty.bool false], [], [(x0.1 != x1.1) = false, (x0.2.1 != x1.2.1) = true]) := by kernel_rfl
theorem p99_2 (x0 : Int × Int × Int × Unit) (x1 : Int × Int × Int × Unit) : runF tab ext99 false 20 [] 2000 [] oks99 kds99 tys99 Tryz.f99.results [false, false, true] [.code b99] (entE 0 0 sig99 (x0, x1, ())) (entL sig99 (x0, x1, ())) = some ([Dyn.mk Ty.bool false], [], [(x0.1 != x1.1) = false, (x0.2.1 != x1.2.1) = false, (x0.2.2.1 != x1.2.2.1) = true]) := by kernel_rfl
theorem p99_3 (x0 : Int × Int × Int × Unit) (x1 : Int × Int × Int × Unit) : runF tab ext99 false 20 [] 2000 [] oks99 kds99 tys99 Tryz.f99.results [false, false, false] [.code b99] (entE 0 0 sig99 (x0, x1, ())) (entL sig99 (x0, x1, ())) = some ([Dyn.mk Ty.bool true], [], [(x0.1 != x1.1) = false, (x0.2.1 != x1.2.1) = false, (x0.2.2.1 != x1.2.2.1) = false]) := by kernel_rfl
theorem at99 (x0 : Int × Int × Int × Unit) (x1 : Int × Int × Int × Unit) (h : P99 x0 x1) (K : Ctx) (q : Nat → Value) : AtV Tryz.prog 99 (PostR kds99 oks99 [⟨Ty.bool, g99_0 x0 x1⟩] [] [] q K) 20 K q [] [.code b99] (entE 0 0 sig99 (x0, x1, ())) (entL sig99 (x0, x1, ())) := by
  unfold P99 at h
  unfold g99_0
  by_cases b0 : (x0.1 != x1.1) = true
  · try simp only [if_pos b0] at h ⊢
    exact AtV.fin Tryz.func99 tabOk ext99Ok mixed (p99_0 x0 x1) ⟨b0, trivial⟩
  · try simp only [if_neg b0] at h ⊢
    replace b0 := Bool.eq_false_iff.2 b0
    by_cases b1 : (x0.2.1 != x1.2.1) = true
    · try simp only [if_pos b1] at h ⊢
      exact AtV.fin Tryz.func99 tabOk ext99Ok mixed (p99_1 x0 x1) ⟨b0, b1, trivial⟩
    · try simp only [if_neg b1] at h ⊢
      replace b1 := Bool.eq_false_iff.2 b1
      by_cases b2 : (x0.2.2.1 != x1.2.2.1) = true
      · try simp only [if_pos b2] at h ⊢
        exact AtV.fin Tryz.func99 tabOk ext99Ok mixed (p99_2 x0 x1) ⟨b0, b1, b2, trivial⟩
      · try simp only [if_neg b2] at h ⊢
        replace b2 := Bool.eq_false_iff.2 b2
        exact AtV.fin Tryz.func99 tabOk ext99Ok mixed (p99_3 x0 x1) ⟨b0, b1, b2, trivial⟩

def S99 : Am.Spec := { sig := sig99, pre := fun ⟨x0, x1, _⟩ => P99 x0 x1, res := fun ⟨x0, x1, _⟩ => [⟨Ty.bool, g99_0 x0 x1⟩], kds := kds99 }
theorem con99 : Contract Tryz.prog 99 S99 := contract_of Tryz.func99 hb99 (Nat.le_of_ble_eq_true (by kernel_rfl)) (fun ⟨x0, x1, _⟩ h _ K q => at99 x0 x1 h K q)


theorem eqd99 (x y : TyB2) : g99_0 x y = true ↔ x = y := by
  obtain ⟨a, b, c, u⟩ := x
  obtain ⟨a', b', c', u'⟩ := y
  unfold g99_0
  simp only [Bool.not_eq_true', bytes_ne, bne_iff_ne, ne_eq, ite_not]
  by_cases h0 : a = a'
  · by_cases h1 : b = b'
    · by_cases h2 : c = c'
      · simp [h0, h1, h2]
      · simp [h0, h1, h2]
    · simp [h0, h1]
  · simp [h0]

end
end Go.Proofs.YtcakiedjgnhjcaaGreat

/- Function 51 (laws.eqTestS): its runs between cut points. Written by a program of this repo (gen). -/
set_option linter.unusedVariables false
set_option linter.unusedSimpArgs false
set_option maxRecDepth 100000
namespace Go.Proofs.YtcakiedjgnhjcaaGreat
open Go Go.Am Go.Proofs
noncomputable section
def ext51 : Ext := [(99, S99)]
theorem call51_99 : Callable Tryz.prog 99 := ⟨Tryz.f99, Tryz.func99, by kernel_rfl, by kernel_rfl⟩
theorem ext51Ok : ExtOk Tryz.prog ext51 := ⟨⟨call51_99, con99⟩, trivial⟩

noncomputable def b51 : Code := bodyOf Tryz.f51
theorem hb51 : Tryz.f51.body = some b51 := by kernel_rfl
def sig51 : List AT := [AT.v (Ty.sl (Ty.cons (Ty.int .i64) (Ty.cons (Ty.int .i64) (Ty.cons (Ty.int .i64) Ty.unit)))), AT.v (Ty.sl (Ty.cons (Ty.int .i64) (Ty.cons (Ty.int .i64) (Ty.cons (Ty.int .i64) Ty.unit))))]
def tys51 : List Ty := [Ty.bool]
def kds51 : List RK := []
def oks51 : List AT := owns sig51
def E51_4 (v5 : Int) (x0 : List TyB2) (x1 : List TyB2) : Env := [(0, PV.a (Atom.sl (Ty.cons (Ty.int .i64) (Ty.cons (Ty.int .i64) (Ty.cons (Ty.int .i64) Ty.unit))) x0)), (1, PV.a (Atom.sl (Ty.cons (Ty.int .i64) (Ty.cons (Ty.int .i64) (Ty.cons (Ty.int .i64) Ty.unit))) x1)), (5, PV.a (Atom.val (Value.int .i64 v5)))]
def L51_4 (v5 : Int) (x0 : List TyB2) (x1 : List TyB2) : Heap := []
mutual
def R51 : Nat → List TyB2 → List TyB2 → List Dyn → Prop
  | 0, _, _, _ => False
  | n + 1, x0, x1, ds => (if ((↑(List.length x0) : Int) != (↑(List.length x1) : Int)) = true then (ds = [Dyn.mk Ty.bool false]) else (R51_4 n (0) (x0) (x1) ds))
def R51_4 : Nat → Int → List TyB2 → List TyB2 → List Dyn → Prop
  | 0, _, _, _, _ => False
  | n + 1, v5, x0, x1, ds => (if (decide (v5 < (↑(List.length x0) : Int))) = true then ((0 ≤ v5) ∧ (v5 < (↑(List.length x0) : Int)) ∧ ((0 ≤ v5) ∧ (v5 < (↑(List.length x1) : Int)) ∧ (if (!g99_0 (List.getD x0 (Int.toNat v5) (0, 0, 0, ())) (List.getD x1 (Int.toNat v5) (0, 0, 0, ()))) = true then (ds = [Dyn.mk Ty.bool false]) else ((InR .i64 (v5 + 1)) ∧ (R51_4 n (v5 + 1) (x0) (x1) ds))))) else (ds = [Dyn.mk Ty.bool true]))
end
theorem p51_0 (x0 : List TyB2) (x1 : List TyB2) : runF tab ext51 false 27 [] 2000 [] oks51 kds51 tys51 Tryz.f51.results [true] [.code b51] (entE 0 0 sig51 (x0, x1, ())) (entL sig51 (x0, x1, ())) = some ([Dyn.mk Ty.bool false], [], [((↑(List.length x0) : Int) != (↑(List.length x1) : Int)) = true]) := by kernel_rfl
theorem p51_1 (x0 : List TyB2) (x1 : List TyB2) : Am.runN tab ext51 false 27 [] 2000 [] [] [0, 1, 5] [] [false] [.code b51] (entE 0 0 sig51 (x0, x1, ())) (entL sig51 (x0, x1, ())) = some (cutAt b51 4, E51_4 (0) (x0) (x1), L51_4 (0) (x0) (x1), [((↑(List.length x0) : Int) != (↑(List.length x1) : Int)) = false]) := by kernel_rfl
theorem p51_2 (v5 : Int) (x0 : List TyB2) (x1 : List TyB2) : runF tab ext51 false 27 [] 2000 [] oks51 kds51 tys51 Tryz.f51.results [true, true] (cutAt b51 4) (E51_4 v5 x0 x1) (L51_4 v5 x0 x1) = some ([Dyn.mk Ty.bool false], [], [decide (v5 < (↑(List.length x0) : Int)) = true, 0 ≤ v5, v5 < (↑(List.length x0) : Int), 0 ≤ v5, v5 < (↑(List.length x1) : Int), True, (!g99_0 (List.getD x0 (Int.toNat v5) (0, 0, 0, ())) (List.getD x1 (Int.toNat v5) (0, 0, 0, ()))) = true]) := by kernel_rfl
theorem p51_3 (v5 : Int) (x0 : List TyB2) (x1 : List TyB2) : Am.runN tab ext51 false 27 [] 2000 [] [] [0, 1, 5] [] [true, false] (cutAt b51 4) (E51_4 v5 x0 x1) (L51_4 v5 x0 x1) = some (cutAt b51 4, E51_4 (v5 + 1) (x0) (x1), L51_4 (v5 + 1) (x0) (x1), [decide (v5 < (↑(List.length x0) : Int)) = true, 0 ≤ v5, v5 < (↑(List.length x0) : Int), 0 ≤ v5, v5 < (↑(List.length x1) : Int), True, (!g99_0 (List.getD x0 (Int.toNat v5) (0, 0, 0, ())) (List.getD x1 (Int.toNat v5) (0, 0, 0, ()))) = false, InR .i64 (v5 + 1)]) := by kernel_rfl
theorem p51_4 (v5 : Int) (x0 : List TyB2) (x1 : List TyB2) : runF tab ext51 false 27 [] 2000 [] oks51 kds51 tys51 Tryz.f51.results [false] (cutAt b51 4) (E51_4 v5 x0 x1) (L51_4 v5 x0 x1) = some ([Dyn.mk Ty.bool true], [], [decide (v5 < (↑(List.length x0) : Int)) = false]) := by kernel_rfl
theorem snd51 : ∀ n, (∀ (x0 : List TyB2) (x1 : List TyB2) ds, R51 n x0 x1 ds → ∀ K q, AtV Tryz.prog 51 (PostR kds51 oks51 ds [] [] q K) 27 K q [] [.code b51] (entE 0 0 sig51 (x0, x1, ())) (entL sig51 (x0, x1, ()))) ∧ (∀ (v5 : Int) (x0 : List TyB2) (x1 : List TyB2) ds, R51_4 n v5 x0 x1 ds → ∀ K q, AtV Tryz.prog 51 (PostR kds51 oks51 ds [] [] q K) 27 K q [] (cutAt b51 4) (E51_4 v5 x0 x1) (L51_4 v5 x0 x1)) := by
  intro n
  induction n with
  | zero => exact ⟨fun _ _ _ h => by simp only [R51] at h, fun _ _ _ _ h => by simp only [R51_4] at h⟩
  | succ n ih =>
  obtain ⟨ih, ih4⟩ := ih
  refine ⟨?_, ?_⟩
  · intro x0 x1 ds h K q
    rw [R51] at h
    by_cases b0 : ((↑(List.length x0) : Int) != (↑(List.length x1) : Int)) = true
    · rw [if_pos b0] at h
      subst h
      exact AtV.fin Tryz.func51 tabOk ext51Ok mixed (p51_0 x0 x1) ⟨b0, trivial⟩
    · rw [if_neg b0] at h
      replace b0 := Bool.eq_false_iff.2 b0
      exact AtV.runN tabOk ext51Ok mixed (p51_1 x0 x1) ⟨b0, trivial⟩ (ih4 _ _ _ _ h K q)

  · intro v5 x0 x1 ds h K q
    rw [R51_4] at h
    by_cases b0 : (decide (v5 < (↑(List.length x0) : Int))) = true
    · rw [if_pos b0] at h
      obtain ⟨s0, s1, h⟩ := h
      obtain ⟨s2, s3, h⟩ := h
      by_cases b1 : (!g99_0 (List.getD x0 (Int.toNat v5) (0, 0, 0, ())) (List.getD x1 (Int.toNat v5) (0, 0, 0, ()))) = true
      · rw [if_pos b1] at h
        subst h
        exact AtV.fin Tryz.func51 tabOk ext51Ok mixed (p51_2 v5 x0 x1) ⟨b0, s0, s1, s2, s3, trivial, b1, trivial⟩
      · rw [if_neg b1] at h
        replace b1 := Bool.eq_false_iff.2 b1
        obtain ⟨s4, h⟩ := h
        exact AtV.runN tabOk ext51Ok mixed (p51_3 v5 x0 x1) ⟨b0, s0, s1, s2, s3, trivial, b1, s4, trivial⟩ (ih4 _ _ _ _ h K q)
    · rw [if_neg b0] at h
      replace b0 := Bool.eq_false_iff.2 b0
      subst h
      exact AtV.fin Tryz.func51 tabOk ext51Ok mixed (p51_4 v5 x0 x1) ⟨b0, trivial⟩



theorem eq51 (x0 x1 : List TyB2) (hl : x0.length = x1.length) (hm : x0.length ≤ maxLen) : ∀ k i : Nat, i + k = x0.length → R51_4 (k + 1) (i : Int) x0 x1 [⟨.bool, decide (x0.drop i = x1.drop i)⟩] := by
  intro k
  induction k with
  | zero =>
    intro i hi
    have h1 : ¬ (i : Int) < (x0.length : Int) := by omega
    rw [R51_4, if_neg (by simpa using h1), drop_end x0 i (by omega), drop_end x1 i (by omega)]
    simp
  | succ k ih =>
    intro i hi
    have h1 : (i : Int) < (x0.length : Int) := by omega
    rw [R51_4, if_pos (by simpa using h1)]
    refine ⟨by omega, h1, by omega, by omega, ?_⟩
    simp only [Int.toNat_natCast]
    rw [drop_get x0 i ((0 : Int), (0 : Int), (0 : Int), ()) (by omega), drop_get x1 i ((0 : Int), (0 : Int), (0 : Int), ()) (by omega)]
    by_cases he : x0.getD i ((0 : Int), (0 : Int), (0 : Int), ()) = x1.getD i ((0 : Int), (0 : Int), (0 : Int), ())
    · have hd := (eqd99 _ _).2 he
      rw [if_neg (by rw [hd]; simp)]
      refine ⟨inR_up hm (by omega), ?_⟩
      have := ih (i + 1) (by omega)
      simp only [he, List.cons.injEq, true_and]
      exact this
    · have hd : g99_0 (x0.getD i ((0 : Int), (0 : Int), (0 : Int), ())) (x1.getD i ((0 : Int), (0 : Int), (0 : Int), ())) = false :=
        Bool.eq_false_iff.2 fun h => he ((eqd99 _ _).1 h)
      rw [if_pos (by rw [hd]; rfl)]
      simp only [he, List.cons.injEq, false_and, decide_false]

def g51_0 (x0 x1 : List TyB2) : Bool := decide (x0 = x1)
def P51 (x0 x1 : List TyB2) : Prop := True
def S51 : Am.Spec := { sig := sig51, pre := fun ⟨x0, x1, _⟩ => P51 x0 x1, res := fun ⟨x0, x1, _⟩ => [⟨Ty.bool, g51_0 x0 x1⟩] }
theorem con51 : Contract Tryz.prog 51 S51 := contract_of Tryz.func51 hb51 (Nat.le_of_ble_eq_true (by kernel_rfl)) (fun ⟨x0, x1, _⟩ h hwf K q => by
  refine (snd51 (x0.length + 2)).1 x0 x1 _ ?_ K q
  show R51 (x0.length + 1 + 1) x0 x1 [⟨Ty.bool, decide (x0 = x1)⟩]
  rw [R51]
  by_cases hl : x0.length = x1.length
  · rw [if_neg (by simp [hl])]
    have := eq51 x0 x1 hl hwf.1.1 x0.length 0 (by omega)
    simpa using this
  · rw [if_pos (by simp; omega)]
    have : x0 ≠ x1 := fun h => hl (by rw [h])
    simp [this])

end
end Go.Proofs.YtcakiedjgnhjcaaGreat

/- Function 100 (laws.eqHelper): its runs between cut points. Written by a program of this repo (gen). -/
set_option linter.unusedVariables false
set_option linter.unusedSimpArgs false
set_option maxRecDepth 100000
namespace Go.Proofs.YtcakiedjgnhjcaaGreat
open Go Go.Am Go.Proofs
noncomputable section
def ext100 : Ext := []
theorem ext100Ok : ExtOk Tryz.prog ext100 := trivial

noncomputable def b100 : Code := bodyOf Tryz.f100
theorem hb100 : Tryz.f100.body = some b100 := by kernel_rfl
def sig100 : List AT := [AT.v (Ty.cons Ty.str (Ty.cons (Ty.int .i64) (Ty.cons (Ty.int .i64) Ty.unit))), AT.v (Ty.cons Ty.str (Ty.cons (Ty.int .i64) (Ty.cons (Ty.int .i64) Ty.unit)))]
def tys100 : List Ty := [Ty.bool]
def kds100 : List RK := []
def oks100 : List AT := owns sig100
def P100 (x0 : ByteArray × Int × Int × Unit) (x1 : ByteArray × Int × Int × Unit) : Prop := True
def g100_0 (x0 : ByteArray × Int × Int × Unit) (x1 : ByteArray × Int × Int × Unit) : Bool := (if (!ByteArray.toList x0.1 == ByteArray.toList x1.1) = true then false else (if (x0.2.1 != x1.2.1) = true then false else (if (x0.2.2.1 != x1.2.2.1) = true then false else true)))
theorem p100_0 (x0 : ByteArray × Int × Int × Unit) (x1 : ByteArray × Int × Int × Unit) : runF tab ext100 false 20 [] 2000 [] oks100 kds100 tys100 Tryz.f100.results [true] [.code b100] (entE 0 0 sig100 (x0, x1, ())) (entL sig100 (x0, x1, ())) = some ([Dyn.mk Ty.bool false], [], [(!ByteArray.toList x0.1 == ByteArray.toList x1.1) = true]) := by kernel_rfl
theorem p100_1 (x0 : ByteArray × Int × Int × Unit) (x1 : ByteArray × Int × Int × Unit) : runF tab ext100 false 20 [] 2000 [] oks100 kds100 tys100 Tryz.f100.results [false, true] [.code b100] (entE 0 0 sig100 (x0, x1, ())) (entL sig100 (x0, x1, ())) = some ([Dyn.mk Ty.bool false], [], [(!ByteArray.toList x0.1 == ByteArray.toList x1.1) = false, (x0.2.1 != x1.2.1) = true]) := by kernel_rfl
theorem p100_2 (x0 : ByteArray × Int × Int × Unit) (x1 : ByteArray × Int × Int × Unit) : runF tab ext100 false 20 [] 2000 [] oks100 kds100 tys100 Tryz.f100.results [false, false, true] [.code b100] (entE 0 0 sig100 (x0, x1, ())) (entL sig100 (x0, x1, ())) = some ([Dyn.mk Ty.bool false], [], [(!ByteArray.toList x0.1 == ByteArray.toList x1.1) = false, (x0.2.1 != x1.2.1) = false, (x0.2.2.1 != x1.2.2.1) = true]) := by kernel_rfl
theorem p100_3 (x0 : ByteArray × Int × Int × Unit) (x1 : ByteArray × Int × Int × Unit) : runF tab ext100 false 20 [] 2000 [] oks100 kds100 tys100 Tryz.f100.results [false, false, false] [.code b100] (entE 0 0 sig100 (x0, x1, ())) (entL sig100 (x0, x1, ())) = some ([Dyn.mk Ty.bool true], [], [(!ByteArray.toList x0.1 == ByteArray.toList x1.1) = false, (x0.2.1 != x1.2.1) = false, (x0.2.2.1 != x1.2.2.1) = false]) := by kernel_rfl
theorem at100 (x0 : ByteArray × Int × Int × Unit) (x1 : ByteArray × Int × Int × Unit) (h : P100 x0 x1) (K : Ctx) (q : Nat → Value) : AtV Tryz.prog 100 (PostR kds100 oks100 [⟨Ty.bool, g100_0 x0 x1⟩] [] [] q K) 20 K q [] [.code b100] (entE 0 0 sig100 (x0, x1, ())) (entL sig100 (x0, x1, ())) := by
  unfold P100 at h
  unfold g100_0
  by_cases b0 : (!ByteArray.toList x0.1 == ByteArray.toList x1.1) = true
  · try simp only [if_pos b0] at h ⊢
    exact AtV.fin Tryz.func100 tabOk ext100Ok mixed (p100_0 x0 x1) ⟨b0, trivial⟩
  · try simp only [if_neg b0] at h ⊢
    replace b0 := Bool.eq_false_iff.2 b0
    by_cases b1 : (x0.2.1 != x1.2.1) = true
    · try simp only [if_pos b1] at h ⊢
      exact AtV.fin Tryz.func100 tabOk ext100Ok mixed (p100_1 x0 x1) ⟨b0, b1, trivial⟩
    · try simp only [if_neg b1] at h ⊢
      replace b1 := Bool.eq_false_iff.2 b1
      by_cases b2 : (x0.2.2.1 != x1.2.2.1) = true
      · try simp only [if_pos b2] at h ⊢
        exact AtV.fin Tryz.func100 tabOk ext100Ok mixed (p100_2 x0 x1) ⟨b0, b1, b2, trivial⟩
      · try simp only [if_neg b2] at h ⊢
        replace b2 := Bool.eq_false_iff.2 b2
        exact AtV.fin Tryz.func100 tabOk ext100Ok mixed (p100_3 x0 x1) ⟨b0, b1, b2, trivial⟩

def S100 : Am.Spec := { sig := sig100, pre := fun ⟨x0, x1, _⟩ => P100 x0 x1, res := fun ⟨x0, x1, _⟩ => [⟨Ty.bool, g100_0 x0 x1⟩], kds := kds100 }
theorem con100 : Contract Tryz.prog 100 S100 := contract_of Tryz.func100 hb100 (Nat.le_of_ble_eq_true (by kernel_rfl)) (fun ⟨x0, x1, _⟩ h _ K q => at100 x0 x1 h K q)


theorem eqd100 (x y : TyB1) : g100_0 x y = true ↔ x = y := by
  obtain ⟨a, b, c, u⟩ := x
  obtain ⟨a', b', c', u'⟩ := y
  unfold g100_0
  simp only [Bool.not_eq_true', bytes_ne, bne_iff_ne, ne_eq, ite_not]
  by_cases h0 : a = a'
  · by_cases h1 : b = b'
    · by_cases h2 : c = c'
      · simp [h0, h1, h2]
      · simp [h0, h1, h2]
    · simp [h0, h1]
  · simp [h0]

end
end Go.Proofs.YtcakiedjgnhjcaaGreat

/- Function 52 (laws.eqHelperS): its runs between cut points. Written by a program of this repo (gen). -/
set_option linter.unusedVariables false
set_option linter.unusedSimpArgs false
set_option maxRecDepth 100000
namespace Go.Proofs.YtcakiedjgnhjcaaGreat
open Go Go.Am Go.Proofs
noncomputable section
def ext52 : Ext := [(100, S100)]
theorem call52_100 : Callable Tryz.prog 100 := ⟨Tryz.f100, Tryz.func100, by kernel_rfl, by kernel_rfl⟩
theorem ext52Ok : ExtOk Tryz.prog ext52 := ⟨⟨call52_100, con100⟩, trivial⟩

noncomputable def b52 : Code := bodyOf Tryz.f52
theorem hb52 : Tryz.f52.body = some b52 := by kernel_rfl
def sig52 : List AT := [AT.v (Ty.sl (Ty.cons Ty.str (Ty.cons (Ty.int .i64) (Ty.cons (Ty.int .i64) Ty.unit)))), AT.v (Ty.sl (Ty.cons Ty.str (Ty.cons (Ty.int .i64) (Ty.cons (Ty.int .i64) Ty.unit))))]
def tys52 : List Ty := [Ty.bool]
def kds52 : List RK := []
def oks52 : List AT := owns sig52
def E52_4 (v5 : Int) (x0 : List TyB1) (x1 : List TyB1) : Env := [(0, PV.a (Atom.sl (Ty.cons Ty.str (Ty.cons (Ty.int .i64) (Ty.cons (Ty.int .i64) Ty.unit))) x0)), (1, PV.a (Atom.sl (Ty.cons Ty.str (Ty.cons (Ty.int .i64) (Ty.cons (Ty.int .i64) Ty.unit))) x1)), (5, PV.a (Atom.val (Value.int .i64 v5)))]
def L52_4 (v5 : Int) (x0 : List TyB1) (x1 : List TyB1) : Heap := []
mutual
def R52 : Nat → List TyB1 → List TyB1 → List Dyn → Prop
  | 0, _, _, _ => False
  | n + 1, x0, x1, ds => (if ((↑(List.length x0) : Int) != (↑(List.length x1) : Int)) = true then (ds = [Dyn.mk Ty.bool false]) else (R52_4 n (0) (x0) (x1) ds))
def R52_4 : Nat → Int → List TyB1 → List TyB1 → List Dyn → Prop
  | 0, _, _, _, _ => False
  | n + 1, v5, x0, x1, ds => (if (decide (v5 < (↑(List.length x0) : Int))) = true then ((0 ≤ v5) ∧ (v5 < (↑(List.length x0) : Int)) ∧ ((0 ≤ v5) ∧ (v5 < (↑(List.length x1) : Int)) ∧ (if (!g100_0 (List.getD x0 (Int.toNat v5) (ByteArray.empty, 0, 0, ())) (List.getD x1 (Int.toNat v5) (ByteArray.empty, 0, 0, ()))) = true then (ds = [Dyn.mk Ty.bool false]) else ((InR .i64 (v5 + 1)) ∧ (R52_4 n (v5 + 1) (x0) (x1) ds))))) else (ds = [Dyn.mk Ty.bool true]))
end
theorem p52_0 (x0 : List TyB1) (x1 : List TyB1) : runF tab ext52 false 27 [] 2000 [] oks52 kds52 tys52 Tryz.f52.results [true] [.code b52] (entE 0 0 sig52 (x0, x1, ())) (entL sig52 (x0, x1, ())) = some ([Dyn.mk Ty.bool false], [], [((↑(List.length x0) : Int) != (↑(List.length x1) : Int)) = true]) := by kernel_rfl
theorem p52_1 (x0 : List TyB1) (x1 : List TyB1) : Am.runN tab ext52 false 27 [] 2000 [] [] [0, 1, 5] [] [false] [.code b52] (entE 0 0 sig52 (x0, x1, ())) (entL sig52 (x0, x1, ())) = some (cutAt b52 4, E52_4 (0) (x0) (x1), L52_4 (0) (x0) (x1), [((↑(List.length x0) : Int) != (↑(List.length x1) : Int)) = false]) := by kernel_rfl
theorem p52_2 (v5 : Int) (x0 : List TyB1) (x1 : List TyB1) : runF tab ext52 false 27 [] 2000 [] oks52 kds52 tys52 Tryz.f52.results [true, true] (cutAt b52 4) (E52_4 v5 x0 x1) (L52_4 v5 x0 x1) = some ([Dyn.mk Ty.bool false], [], [decide (v5 < (↑(List.length x0) : Int)) = true, 0 ≤ v5, v5 < (↑(List.length x0) : Int), 0 ≤ v5, v5 < (↑(List.length x1) : Int), True, (!g100_0 (List.getD x0 (Int.toNat v5) (ByteArray.empty, 0, 0, ())) (List.getD x1 (Int.toNat v5) (ByteArray.empty, 0, 0, ()))) = true]) := by kernel_rfl
theorem p52_3 (v5 : Int) (x0 : List TyB1) (x1 : List TyB1) : Am.runN tab ext52 false 27 [] 2000 [] [] [0, 1, 5] [] [true, false] (cutAt b52 4) (E52_4 v5 x0 x1) (L52_4 v5 x0 x1) = some (cutAt b52 4, E52_4 (v5 + 1) (x0) (x1), L52_4 (v5 + 1) (x0) (x1), [decide (v5 < (↑(List.length x0) : Int)) = true, 0 ≤ v5, v5 < (↑(List.length x0) : Int), 0 ≤ v5, v5 < (↑(List.length x1) : Int), True, (!g100_0 (List.getD x0 (Int.toNat v5) (ByteArray.empty, 0, 0, ())) (List.getD x1 (Int.toNat v5) (ByteArray.empty, 0, 0, ()))) = false, InR .i64 (v5 + 1)]) := by kernel_rfl
theorem p52_4 (v5 : Int) (x0 : List TyB1) (x1 : List TyB1) : runF tab ext52 false 27 [] 2000 [] oks52 kds52 tys52 Tryz.f52.results [false] (cutAt b52 4) (E52_4 v5 x0 x1) (L52_4 v5 x0 x1) = some ([Dyn.mk Ty.bool true], [], [decide (v5 < (↑(List.length x0) : Int)) = false]) := by kernel_rfl
theorem snd52 : ∀ n, (∀ (x0 : List TyB1) (x1 : List TyB1) ds, R52 n x0 x1 ds → ∀ K q, AtV Tryz.prog 52 (PostR kds52 oks52 ds [] [] q K) 27 K q [] [.code b52] (entE 0 0 sig52 (x0, x1, ())) (entL sig52 (x0, x1, ()))) ∧ (∀ (v5 : Int) (x0 : List TyB1) (x1 : List TyB1) ds, R52_4 n v5 x0 x1 ds → ∀ K q, AtV Tryz.prog 52 (PostR kds52 oks52 ds [] [] q K) 27 K q [] (cutAt b52 4) (E52_4 v5 x0 x1) (L52_4 v5 x0 x1)) := by
  intro n
  induction n with
  | zero => exact ⟨fun _ _ _ h => by simp only [R52] at h, fun _ _ _ _ h => by simp only [R52_4] at h⟩
  | succ n ih =>
  obtain ⟨ih, ih4⟩ := ih
  refine ⟨?_, ?_⟩
  · intro x0 x1 ds h K q
    rw [R52] at h
    by_cases b0 : ((↑(List.length x0) : Int) != (↑(List.length x1) : Int)) = true
    · rw [if_pos b0] at h
      subst h
      exact AtV.fin Tryz.func52 tabOk ext52Ok mixed (p52_0 x0 x1) ⟨b0, trivial⟩
    · rw [if_neg b0] at h
      replace b0 := Bool.eq_false_iff.2 b0
      exact AtV.runN tabOk ext52Ok mixed (p52_1 x0 x1) ⟨b0, trivial⟩ (ih4 _ _ _ _ h K q)

  · intro v5 x0 x1 ds h K q
    rw [R52_4] at h
    by_cases b0 : (decide (v5 < (↑(List.length x0) : Int))) = true
    · rw [if_pos b0] at h
      obtain ⟨s0, s1, h⟩ := h
      obtain ⟨s2, s3, h⟩ := h
      by_cases b1 : (!g100_0 (List.getD x0 (Int.toNat v5) (ByteArray.empty, 0, 0, ())) (List.getD x1 (Int.toNat v5) (ByteArray.empty, 0, 0, ()))) = true
      · rw [if_pos b1] at h
        subst h
        exact AtV.fin Tryz.func52 tabOk ext52Ok mixed (p52_2 v5 x0 x1) ⟨b0, s0, s1, s2, s3, trivial, b1, trivial⟩
      · rw [if_neg b1] at h
        replace b1 := Bool.eq_false_iff.2 b1
        obtain ⟨s4, h⟩ := h
        exact AtV.runN tabOk ext52Ok mixed (p52_3 v5 x0 x1) ⟨b0, s0, s1, s2, s3, trivial, b1, s4, trivial⟩ (ih4 _ _ _ _ h K q)
    · rw [if_neg b0] at h
      replace b0 := Bool.eq_false_iff.2 b0
      subst h
      exact AtV.fin Tryz.func52 tabOk ext52Ok mixed (p52_4 v5 x0 x1) ⟨b0, trivial⟩



theorem eq52 (x0 x1 : List TyB1) (hl : x0.length = x1.length) (hm : x0.length ≤ maxLen) : ∀ k i : Nat, i + k = x0.length → R52_4 (k + 1) (i : Int) x0 x1 [⟨.bool, decide (x0.drop i = x1.drop i)⟩] := by
  intro k
  induction k with
  | zero =>
    intro i hi
    have h1 : ¬ (i : Int) < (x0.length : Int) := by omega
    rw [R52_4, if_neg (by simpa using h1), drop_end x0 i (by omega), drop_end x1 i (by omega)]
    simp
  | succ k ih =>
    intro i hi
    have h1 : (i : Int) < (x0.length : Int) := by omega
    rw [R52_4, if_pos (by simpa using h1)]
    refine ⟨by omega, h1, by omega, by omega, ?_⟩
    simp only [Int.toNat_natCast]
    rw [drop_get x0 i (ByteArray.empty, (0 : Int), (0 : Int), ()) (by omega), drop_get x1 i (ByteArray.empty, (0 : Int), (0 : Int), ()) (by omega)]
    by_cases he : x0.getD i (ByteArray.empty, (0 : Int), (0 : Int), ()) = x1.getD i (ByteArray.empty, (0 : Int), (0 : Int), ())
    · have hd := (eqd100 _ _).2 he
      rw [if_neg (by rw [hd]; simp)]
      refine ⟨inR_up hm (by omega), ?_⟩
      have := ih (i + 1) (by omega)
      simp only [he, List.cons.injEq, true_and]
      exact this
    · have hd : g100_0 (x0.getD i (ByteArray.empty, (0 : Int), (0 : Int), ())) (x1.getD i (ByteArray.empty, (0 : Int), (0 : Int), ())) = false :=
        Bool.eq_false_iff.2 fun h => he ((eqd100 _ _).1 h)
      rw [if_pos (by rw [hd]; rfl)]
      simp only [he, List.cons.injEq, false_and, decide_false]

def g52_0 (x0 x1 : List TyB1) : Bool := decide (x0 = x1)
def P52 (x0 x1 : List TyB1) : Prop := True
def S52 : Am.Spec := { sig := sig52, pre := fun ⟨x0, x1, _⟩ => P52 x0 x1, res := fun ⟨x0, x1, _⟩ => [⟨Ty.bool, g52_0 x0 x1⟩] }
theorem con52 : Contract Tryz.prog 52 S52 := contract_of Tryz.func52 hb52 (Nat.le_of_ble_eq_true (by kernel_rfl)) (fun ⟨x0, x1, _⟩ h hwf K q => by
  refine (snd52 (x0.length + 2)).1 x0 x1 _ ?_ K q
  show R52 (x0.length + 1 + 1) x0 x1 [⟨Ty.bool, decide (x0 = x1)⟩]
  rw [R52]
  by_cases hl : x0.length = x1.length
  · rw [if_neg (by simp [hl])]
    have := eq52 x0 x1 hl hwf.1.1 x0.length 0 (by omega)
    simpa using this
  · rw [if_pos (by simp; omega)]
    have : x0 ≠ x1 := fun h => hl (by rw [h])
    simp [this])

end
end Go.Proofs.YtcakiedjgnhjcaaGreat

/- Function 101 (laws.eqTask): its runs between cut points. Written by a program of this repo (gen). -/
set_option linter.unusedVariables false
set_option linter.unusedSimpArgs false
set_option maxRecDepth 100000
namespace Go.Proofs.YtcakiedjgnhjcaaGreat
open Go Go.Am Go.Proofs
noncomputable section
def ext101 : Ext := []
theorem ext101Ok : ExtOk Tryz.prog ext101 := trivial

noncomputable def b101 : Code := bodyOf Tryz.f101
theorem hb101 : Tryz.f101.body = some b101 := by kernel_rfl
def sig101 : List AT := [AT.v (Ty.cons Ty.str (Ty.cons (Ty.int .i64) (Ty.cons (Ty.int .i64) Ty.unit))), AT.v (Ty.cons Ty.str (Ty.cons (Ty.int .i64) (Ty.cons (Ty.int .i64) Ty.unit)))]
def tys101 : List Ty := [Ty.bool]
def kds101 : List RK := []
def oks101 : List AT := owns sig101
def P101 (x0 : ByteArray × Int × Int × Unit) (x1 : ByteArray × Int × Int × Unit) : Prop := True
def g101_0 (x0 : ByteArray × Int × Int × Unit) (x1 : ByteArray × Int × Int × Unit) : Bool := (if (!ByteArray.toList x0.1 == ByteArray.toList x1.1) = true then false else (if (x0.2.1 != x1.2.1) = true then false else (if (x0.2.2.1 != x1.2.2.1) = true then false else true)))
theorem p101_0 (x0 : ByteArray × Int × Int × Unit) (x1 : ByteArray × Int × Int × Unit) : runF tab ext101 false 20 [] 2000 [] oks101 kds101 tys101 Tryz.f101.results [true] [.code b101] (entE 0 0 sig101 (x0, x1, ())) (entL sig101 (x0, x1, ())) = some ([Dyn.mk Ty.bool false], [], [(!ByteArray.toList x0.1 == ByteArray.toList x1.1) = true]) := by kernel_rfl
theorem p101_1 (x0 : ByteArray × Int × Int × Unit) (x1 : ByteArray × Int × Int × Unit) : runF tab ext101 false 20 [] 2000 [] oks101 kds101 tys101 Tryz.f101.results [false, true] [.code b101] (entE 0 0 sig101 (x0, x1, ())) (entL sig101 (x0, x1, ())) = some ([Dyn.mk Ty.bool false], [], [(!ByteArray.toList x0.1 == ByteArray.toList x1.1) = false, (x0.2.1 != x1.2.1) = true]) := by kernel_rfl
theorem p101_2 (x0 : ByteArray × Int × Int × Unit) (x1 : ByteArray × Int × Int × Unit) : runF tab ext101 false 20 [] 2000 [] oks101 kds101 tys101 Tryz.f101.results [false, false, true] [.code b101] (entE 0 0 sig101 (x0, x1, ())) (entL sig101 (x0, x1, ())) = some ([Dyn.mk Ty.bool false], [], [(!ByteArray.toList x0.1 == ByteArray.toList x1.1) = false, (x0.2.1 != x1.2.1) = false, (x0.2.2.1 != x1.2.2.1) = true]) := by kernel_rfl
theorem p101_3 (x0 : ByteArray × Int × Int × Unit) (x1 : ByteArray × Int × Int × Unit) : runF tab ext101 false 20 [] 2000 [] oks101 kds101 tys101 Tryz.f101.results [false, false, false] [.code b101] (entE 0 0 sig101 (x0, x1, ())) (entL sig101 (x0, x1, ())) = some ([Dyn.mk Ty.bool true], [], [(!ByteArray.toList x0.1 == ByteArray.toList x1.1) = false, (x0.2.1 != x1.2.1) = false, (x0.2.2.1 != x1.2.2.1) = false]) := by kernel_rfl
theorem at101 (x0 : ByteArray × Int × Int × Unit) (x1 : ByteArray × Int × Int × Unit) (h : P101 x0 x1) (K : Ctx) (q : Nat → Value) : AtV Tryz.prog 101 (PostR kds101 oks101 [⟨Ty.bool, g101_0 x0 x1⟩] [] [] q K) 20 K q [] [.code b101] (entE 0 0 sig101 (x0, x1, ())) (entL sig101 (x0, x1, ())) := by
  unfold P101 at h
  unfold g101_0
  by_cases b0 : (!ByteArray.toList x0.1 == ByteArray.toList x1.1) = true
  · try simp only [if_pos b0] at h ⊢
    exact AtV.fin Tryz.func101 tabOk ext101Ok mixed (p101_0 x0 x1) ⟨b0, trivial⟩
  · try simp only [if_neg b0] at h ⊢
    replace b0 := Bool.eq_false_iff.2 b0
    by_cases b1 : (x0.2.1 != x1.2.1) = true
    · try simp only [if_pos b1] at h ⊢
      exact AtV.fin Tryz.func101 tabOk ext101Ok mixed (p101_1 x0 x1) ⟨b0, b1, trivial⟩
    · try simp only [if_neg b1] at h ⊢
      replace b1 := Bool.eq_false_iff.2 b1
      by_cases b2 : (x0.2.2.1 != x1.2.2.1) = true
      · try simp only [if_pos b2] at h ⊢
        exact AtV.fin Tryz.func101 tabOk ext101Ok mixed (p101_2 x0 x1) ⟨b0, b1, b2, trivial⟩
      · try simp only [if_neg b2] at h ⊢
        replace b2 := Bool.eq_false_iff.2 b2
        exact AtV.fin Tryz.func101 tabOk ext101Ok mixed (p101_3 x0 x1) ⟨b0, b1, b2, trivial⟩

def S101 : Am.Spec := { sig := sig101, pre := fun ⟨x0, x1, _⟩ => P101 x0 x1, res := fun ⟨x0, x1, _⟩ => [⟨Ty.bool, g101_0 x0 x1⟩], kds := kds101 }
theorem con101 : Contract Tryz.prog 101 S101 := contract_of Tryz.func101 hb101 (Nat.le_of_ble_eq_true (by kernel_rfl)) (fun ⟨x0, x1, _⟩ h _ K q => at101 x0 x1 h K q)


theorem eqd101 (x y : TyB1) : g101_0 x y = true ↔ x = y := by
  obtain ⟨a, b, c, u⟩ := x
  obtain ⟨a', b', c', u'⟩ := y
  unfold g101_0
  simp only [Bool.not_eq_true', bytes_ne, bne_iff_ne, ne_eq, ite_not]
  by_cases h0 : a = a'
  · by_cases h1 : b = b'
    · by_cases h2 : c = c'
      · simp [h0, h1, h2]
      · simp [h0, h1, h2]
    · simp [h0, h1]
  · simp [h0]

end
end Go.Proofs.YtcakiedjgnhjcaaGreat

/- Function 53 (laws.eqTaskS): its runs between cut points. Written by a program of this repo (gen). -/
set_option linter.unusedVariables false
set_option linter.unusedSimpArgs false
set_option maxRecDepth 100000
namespace Go.Proofs.YtcakiedjgnhjcaaGreat
open Go Go.Am Go.Proofs
noncomputable section
def ext53 : Ext := [(101, S101)]
theorem call53_101 : Callable Tryz.prog 101 := ⟨Tryz.f101, Tryz.func101, by kernel_rfl, by kernel_rfl⟩
theorem ext53Ok : ExtOk Tryz.prog ext53 := ⟨⟨call53_101, con101⟩, trivial⟩

noncomputable def b53 : Code := bodyOf Tryz.f53
theorem hb53 : Tryz.f53.body = some b53 := by kernel_rfl
def sig53 : List AT := [AT.v (Ty.sl (Ty.cons Ty.str (Ty.cons (Ty.int .i64) (Ty.cons (Ty.int .i64) Ty.unit)))), AT.v (Ty.sl (Ty.cons Ty.str (Ty.cons (Ty.int .i64) (Ty.cons (Ty.int .i64) Ty.unit))))]
def tys53 : List Ty := [Ty.bool]
def kds53 : List RK := []
def oks53 : List AT := owns sig53
def E53_4 (v5 : Int) (x0 : List TyB1) (x1 : List TyB1) : Env := [(0, PV.a (Atom.sl (Ty.cons Ty.str (Ty.cons (Ty.int .i64) (Ty.cons (Ty.int .i64) Ty.unit))) x0)), (1, PV.a (Atom.sl (Ty.cons Ty.str (Ty.cons (Ty.int .i64) (Ty.cons (Ty.int .i64) Ty.unit))) x1)), (5, PV.a (Atom.val (Value.int .i64 v5)))]
def L53_4 (v5 : Int) (x0 : List TyB1) (x1 : List TyB1) : Heap := []
mutual
def R53 : Nat → List TyB1 → List TyB1 → List Dyn → Prop
  | 0, _, _, _ => False
  | n + 1, x0, x1, ds => (if ((↑(List.length x0) : Int) != (↑(List.length x1) : Int)) = true then (ds = [Dyn.mk Ty.bool false]) else (R53_4 n (0) (x0) (x1) ds))
def R53_4 : Nat → Int → List TyB1 → List TyB1 → List Dyn → Prop
  | 0, _, _, _, _ => False
  | n + 1, v5, x0, x1, ds => (if (decide (v5 < (↑(List.length x0) : Int))) = true then ((0 ≤ v5) ∧ (v5 < (↑(List.length x0) : Int)) ∧ ((0 ≤ v5) ∧ (v5 < (↑(List.length x1) : Int)) ∧ (if (!g101_0 (List.getD x0 (Int.toNat v5) (ByteArray.empty, 0, 0, ())) (List.getD x1 (Int.toNat v5) (ByteArray.empty, 0, 0, ()))) = true then (ds = [Dyn.mk Ty.bool false]) else ((InR .i64 (v5 + 1)) ∧ (R53_4 n (v5 + 1) (x0) (x1) ds))))) else (ds = [Dyn.mk Ty.bool true]))
end
theorem p53_0 (x0 : List TyB1) (x1 : List TyB1) : runF tab ext53 false 27 [] 2000 [] oks53 kds53 tys53 Tryz.f53.results [true] [.code b53] (entE 0 0 sig53 (x0, x1, ())) (entL sig53 (x0, x1, ())) = some ([Dyn.mk Ty.bool false], [], [((↑(List.length x0) : Int) != (↑(List.length x1) : Int)) = true]) := by kernel_rfl
theorem p53_1 (x0 : List TyB1) (x1 : List TyB1) : Am.runN tab ext53 false 27 [] 2000 [] [] [0, 1, 5] [] [false] [.code b53] (entE 0 0 sig53 (x0, x1, ())) (entL sig53 (x0, x1, ())) = some (cutAt b53 4, E53_4 (0) (x0) (x1), L53_4 (0) (x0) (x1), [((↑(List.length x0) : Int) != (↑(List.length x1) : Int)) = false]) := by kernel_rfl
theorem p53_2 (v5 : Int) (x0 : List TyB1) (x1 : List TyB1) : runF tab ext53 false 27 [] 2000 [] oks53 kds53 tys53 Tryz.f53.results [true, true] (cutAt b53 4) (E53_4 v5 x0 x1) (L53_4 v5 x0 x1) = some ([Dyn.mk Ty.bool false], [], [decide (v5 < (↑(List.length x0) : Int)) = true, 0 ≤ v5, v5 < (↑(List.length x0) : Int), 0 ≤ v5, v5 < (↑(List.length x1) : Int), True, (!g101_0 (List.getD x0 (Int.toNat v5) (ByteArray.empty, 0, 0, ())) (List.getD x1 (Int.toNat v5) (ByteArray.empty, 0, 0, ()))) = true]) := by kernel_rfl
theorem p53_3 (v5 : Int) (x0 : List TyB1) (x1 : List TyB1) : Am.runN tab ext53 false 27 [] 2000 [] [] [0, 1, 5] [] [true, false] (cutAt b53 4) (E53_4 v5 x0 x1) (L53_4 v5 x0 x1) = some (cutAt b53 4, E53_4 (v5 + 1) (x0) (x1), L53_4 (v5 + 1) (x0) (x1), [decide (v5 < (↑(List.length x0) : Int)) = true, 0 ≤ v5, v5 < (↑(List.length x0) : Int), 0 ≤ v5, v5 < (↑(List.length x1) : Int), True, (!g101_0 (List.getD x0 (Int.toNat v5) (ByteArray.empty, 0, 0, ())) (List.getD x1 (Int.toNat v5) (ByteArray.empty, 0, 0, ()))) = false, InR .i64 (v5 + 1)]) := by kernel_rfl
theorem p53_4 (v5 : Int) (x0 : List TyB1) (x1 : List TyB1) : runF tab ext53 false 27 [] 2000 [] oks53 kds53 tys53 Tryz.f53.results [false] (cutAt b53 4) (E53_4 v5 x0 x1) (L53_4 v5 x0 x1) = some ([Dyn.mk Ty.bool true], [], [decide (v5 < (↑(List.length x0) : Int)) = false]) := by kernel_rfl
theorem snd53 : ∀ n, (∀ (x0 : List TyB1) (x1 : List TyB1) ds, R53 n x0 x1 ds → ∀ K q, AtV Tryz.prog 53 (PostR kds53 oks53 ds [] [] q K) 27 K q [] [.code b53] (entE 0 0 sig53 (x0, x1, ())) (entL sig53 (x0, x1, ()))) ∧ (∀ (v5 : Int) (x0 : List TyB1) (x1 : List TyB1) ds, R53_4 n v5 x0 x1 ds → ∀ K q, AtV Tryz.prog 53 (PostR kds53 oks53 ds [] [] q K) 27 K q [] (cutAt b53 4) (E53_4 v5 x0 x1) (L53_4 v5 x0 x1)) := by
  intro n
  induction n with
  | zero => exact ⟨fun _ _ _ h => by simp only [R53] at h, fun _ _ _ _ h => by simp only [R53_4] at h⟩
  | succ n ih =>
  obtain ⟨ih, ih4⟩ := ih
  refine ⟨?_, ?_⟩
  · intro x0 x1 ds h K q
    rw [R53] at h
    by_cases b0 : ((↑(List.length x0) : Int) != (↑(List.length x1) : Int)) = true
    · rw [if_pos b0] at h
      subst h
      exact AtV.fin Tryz.func53 tabOk ext53Ok mixed (p53_0 x0 x1) ⟨b0, trivial⟩
    · rw [if_neg b0] at h
      replace b0 := Bool.eq_false_iff.2 b0
      exact AtV.runN tabOk ext53Ok mixed (p53_1 x0 x1) ⟨b0, trivial⟩ (ih4 _ _ _ _ h K q)

  · intro v5 x0 x1 ds h K q
    rw [R53_4] at h
    by_cases b0 : (decide (v5 < (↑(List.length x0) : Int))) = true
    · rw [if_pos b0] at h
      obtain ⟨s0, s1, h⟩ := h
      obtain ⟨s2, s3, h⟩ := h
      by_cases b1 : (!g101_0 (List.getD x0 (Int.toNat v5) (ByteArray.empty, 0, 0, ())) (List.getD x1 (Int.toNat v5) (ByteArray.empty, 0, 0, ()))) = true
      · rw [if_pos b1] at h
        subst h
        exact AtV.fin Tryz.func53 tabOk ext53Ok mixed (p53_2 v5 x0 x1) ⟨b0, s0, s1, s2, s3, trivial, b1, trivial⟩
      · rw [if_neg b1] at h
        replace b1 := Bool.eq_false_iff.2 b1
        obtain ⟨s4, h⟩ := h
        exact AtV.runN tabOk ext53Ok mixed (p53_3 v5 x0 x1) ⟨b0, s0, s1, s2, s3, trivial, b1, s4, trivial⟩ (ih4 _ _ _ _ h K q)
    · rw [if_neg b0] at h
      replace b0 := Bool.eq_false_iff.2 b0
      subst h
      exact AtV.fin Tryz.func53 tabOk ext53Ok mixed (p53_4 v5 x0 x1) ⟨b0, trivial⟩



theorem eq53 (x0 x1 : List TyB1) (hl : x0.length = x1.length) (hm : x0.length ≤ maxLen) : ∀ k i : Nat, i + k = x0.length → R53_4 (k + 1) (i : Int) x0 x1 [⟨.bool, decide (x0.drop i = x1.drop i)⟩] := by
  intro k
  induction k with
  | zero =>
    intro i hi
    have h1 : ¬ (i : Int) < (x0.length : Int) := by omega
    rw [R53_4, if_neg (by simpa using h1), drop_end x0 i (by omega), drop_end x1 i (by omega)]
    simp
  | succ k ih =>
    intro i hi
    have h1 : (i : Int) < (x0.length : Int) := by omega
    rw [R53_4, if_pos (by simpa using h1)]
    refine ⟨by omega, h1, by omega, by omega, ?_⟩
    simp only [Int.toNat_natCast]
    rw [drop_get x0 i (ByteArray.empty, (0 : Int), (0 : Int), ()) (by omega), drop_get x1 i (ByteArray.empty, (0 : Int), (0 : Int), ()) (by omega)]
    by_cases he : x0.getD i (ByteArray.empty, (0 : Int), (0 : Int), ()) = x1.getD i (ByteArray.empty, (0 : Int), (0 : Int), ())
    · have hd := (eqd101 _ _).2 he
      rw [if_neg (by rw [hd]; simp)]
      refine ⟨inR_up hm (by omega), ?_⟩
      have := ih (i + 1) (by omega)
      simp only [he, List.cons.injEq, true_and]
      exact this
    · have hd : g101_0 (x0.getD i (ByteArray.empty, (0 : Int), (0 : Int), ())) (x1.getD i (ByteArray.empty, (0 : Int), (0 : Int), ())) = false :=
        Bool.eq_false_iff.2 fun h => he ((eqd101 _ _).1 h)
      rw [if_pos (by rw [hd]; rfl)]
      simp only [he, List.cons.injEq, false_and, decide_false]

def g53_0 (x0 x1 : List TyB1) : Bool := decide (x0 = x1)
def P53 (x0 x1 : List TyB1) : Prop := True
def S53 : Am.Spec := { sig := sig53, pre := fun ⟨x0, x1, _⟩ => P53 x0 x1, res := fun ⟨x0, x1, _⟩ => [⟨Ty.bool, g53_0 x0 x1⟩] }
theorem con53 : Contract Tryz.prog 53 S53 := contract_of Tryz.func53 hb53 (Nat.le_of_ble_eq_true (by kernel_rfl)) (fun ⟨x0, x1, _⟩ h hwf K q => by
  refine (snd53 (x0.length + 2)).1 x0 x1 _ ?_ K q
  show R53 (x0.length + 1 + 1) x0 x1 [⟨Ty.bool, decide (x0 = x1)⟩]
  rw [R53]
  by_cases hl : x0.length = x1.length
  · rw [if_neg (by simp [hl])]
    have := eq53 x0 x1 hl hwf.1.1 x0.length 0 (by omega)
    simpa using this
  · rw [if_pos (by simp; omega)]
    have : x0 ≠ x1 := fun h => hl (by rw [h])
    simp [this])

end
end Go.Proofs.YtcakiedjgnhjcaaGreat

/- Function 8 (laws.eqDesk): its runs between cut points. Written by a program of this repo (gen). -/
set_option linter.unusedVariables false
set_option linter.unusedSimpArgs false
set_option maxRecDepth 100000
namespace Go.Proofs.YtcakiedjgnhjcaaGreat
open Go Go.Am Go.Proofs
noncomputable section
def ext8 : Ext := [(42, S42), (43, S43), (44, S44), (45, S45), (46, S46), (47, S47), (48, S48), (49, S49), (50, S50), (51, S51), (52, S52), (53, S53)]
theorem call8_42 : Callable Tryz.prog 42 := ⟨Tryz.f42, Tryz.func42, by kernel_rfl, by kernel_rfl⟩
theorem call8_43 : Callable Tryz.prog 43 := ⟨Tryz.f43, Tryz.func43, by kernel_rfl, by kernel_rfl⟩
theorem call8_44 : Callable Tryz.prog 44 := ⟨Tryz.f44, Tryz.func44, by kernel_rfl, by kernel_rfl⟩
theorem call8_45 : Callable Tryz.prog 45 := ⟨Tryz.f45, Tryz.func45, by kernel_rfl, by kernel_rfl⟩
theorem call8_46 : Callable Tryz.prog 46 := ⟨Tryz.f46, Tryz.func46, by kernel_rfl, by kernel_rfl⟩
theorem call8_47 : Callable Tryz.prog 47 := ⟨Tryz.f47, Tryz.func47, by kernel_rfl, by kernel_rfl⟩
theorem call8_48 : Callable Tryz.prog 48 := ⟨Tryz.f48, Tryz.func48, by kernel_rfl, by kernel_rfl⟩
theorem call8_49 : Callable Tryz.prog 49 := ⟨Tryz.f49, Tryz.func49, by kernel_rfl, by kernel_rfl⟩
theorem call8_50 : Callable Tryz.prog 50 := ⟨Tryz.f50, Tryz.func50, by kernel_rfl, by kernel_rfl⟩
theorem call8_51 : Callable Tryz.prog 51 := ⟨Tryz.f51, Tryz.func51, by kernel_rfl, by kernel_rfl⟩
theorem call8_52 : Callable Tryz.prog 52 := ⟨Tryz.f52, Tryz.func52, by kernel_rfl, by kernel_rfl⟩
theorem call8_53 : Callable Tryz.prog 53 := ⟨Tryz.f53, Tryz.func53, by kernel_rfl, by kernel_rfl⟩
theorem ext8Ok : ExtOk Tryz.prog ext8 := ⟨⟨call8_42, con42⟩, ⟨call8_43, con43⟩, ⟨call8_44, con44⟩, ⟨call8_45, con45⟩, ⟨call8_46, con46⟩, ⟨call8_47, con47⟩, ⟨call8_48, con48⟩, ⟨call8_49, con49⟩, ⟨call8_50, con50⟩, ⟨call8_51, con51⟩, ⟨call8_52, con52⟩, ⟨call8_53, con53⟩, trivial⟩

noncomputable def b8 : Code := bodyOf Tryz.f8
theorem hb8 : Tryz.f8.body = some b8 := by kernel_rfl
def sig8 : List AT := [AT.v (Ty.cons (Ty.sl (Ty.cons Ty.str (Ty.cons (Ty.int .i64) (Ty.cons (Ty.int .i64) (Ty.cons (Ty.int .i64) Ty.unit))))) (Ty.cons (Ty.cons (Ty.int .i64) (Ty.cons (Ty.int .i64) (Ty.cons (Ty.int .i64) (Ty.cons (Ty.int .i64) Ty.unit)))) (Ty.cons (Ty.sl (Ty.cons (Ty.int .i64) (Ty.cons (Ty.int .i64) (Ty.cons (Ty.int .i64) Ty.unit)))) (Ty.cons (Ty.sl (Ty.cons (Ty.int .i64) (Ty.cons (Ty.int .i64) (Ty.cons (Ty.int .i64) Ty.unit)))) (Ty.cons (Ty.cons (Ty.int .i64) (Ty.cons (Ty.int .i64) (Ty.cons (Ty.int .i64) Ty.unit))) (Ty.cons (Ty.cons (Ty.int .i64) (Ty.cons (Ty.int .i64) (Ty.cons (Ty.int .i64) Ty.unit))) (Ty.cons (Ty.sl (Ty.cons Ty.str (Ty.cons (Ty.int .i64) (Ty.cons (Ty.int .i64) Ty.unit)))) (Ty.cons (Ty.cons (Ty.int .i64) (Ty.cons (Ty.int .i64) (Ty.cons (Ty.int .i64) (Ty.cons (Ty.int .i64) Ty.unit)))) (Ty.cons (Ty.sl (Ty.cons Ty.str (Ty.cons (Ty.int .i64) (Ty.cons (Ty.int .i64) (Ty.cons (Ty.int .i64) Ty.unit))))) (Ty.cons (Ty.sl (Ty.cons (Ty.int .i64) (Ty.cons (Ty.int .i64) (Ty.cons (Ty.int .i64) Ty.unit)))) (Ty.cons (Ty.sl (Ty.cons Ty.str (Ty.cons (Ty.int .i64) (Ty.cons (Ty.int .i64) Ty.unit)))) (Ty.cons (Ty.sl (Ty.cons Ty.str (Ty.cons (Ty.int .i64) (Ty.cons (Ty.int .i64) Ty.unit)))) Ty.unit)))))))))))), AT.v (Ty.cons (Ty.sl (Ty.cons Ty.str (Ty.cons (Ty.int .i64) (Ty.cons (Ty.int .i64) (Ty.cons (Ty.int .i64) Ty.unit))))) (Ty.cons (Ty.cons (Ty.int .i64) (Ty.cons (Ty.int .i64) (Ty.cons (Ty.int .i64) (Ty.cons (Ty.int .i64) Ty.unit)))) (Ty.cons (Ty.sl (Ty.cons (Ty.int .i64) (Ty.cons (Ty.int .i64) (Ty.cons (Ty.int .i64) Ty.unit)))) (Ty.cons (Ty.sl (Ty.cons (Ty.int .i64) (Ty.cons (Ty.int .i64) (Ty.cons (Ty.int .i64) Ty.unit)))) (Ty.cons (Ty.cons (Ty.int .i64) (Ty.cons (Ty.int .i64) (Ty.cons (Ty.int .i64) Ty.unit))) (Ty.cons (Ty.cons (Ty.int .i64) (Ty.cons (Ty.int .i64) (Ty.cons (Ty.int .i64) Ty.unit))) (Ty.cons (Ty.sl (Ty.cons Ty.str (Ty.cons (Ty.int .i64) (Ty.cons (Ty.int .i64) Ty.unit)))) (Ty.cons (Ty.cons (Ty.int .i64) (Ty.cons (Ty.int .i64) (Ty.cons (Ty.int .i64) (Ty.cons (Ty.int .i64) Ty.unit)))) (Ty.cons (Ty.sl (Ty.cons Ty.str (Ty.cons (Ty.int .i64) (Ty.cons (Ty.int .i64) (Ty.cons (Ty.int .i64) Ty.unit))))) (Ty.cons (Ty.sl (Ty.cons (Ty.int .i64) (Ty.cons (Ty.int .i64) (Ty.cons (Ty.int .i64) Ty.unit)))) (Ty.cons (Ty.sl (Ty.cons Ty.str (Ty.cons (Ty.int .i64) (Ty.cons (Ty.int .i64) Ty.unit)))) (Ty.cons (Ty.sl (Ty.cons Ty.str (Ty.cons (Ty.int .i64) (Ty.cons (Ty.int .i64) Ty.unit)))) Ty.unit))))))))))))]
def tys8 : List Ty := [Ty.bool]
def kds8 : List RK := []
def oks8 : List AT := owns sig8
def P8 (x0 : TyA0) (x1 : TyA0) : Prop := True
def g8_0 (x0 : TyA0) (x1 : TyA0) : Bool := (if (!g42_0 x0.1 x1.1) = true then false else (if (!g43_0 x0.2.1 x1.2.1) = true then false else (if (!g44_0 x0.2.2.1 x1.2.2.1) = true then false else (if (!g45_0 x0.2.2.2.1 x1.2.2.2.1) = true then false else (if (!g46_0 x0.2.2.2.2.1 x1.2.2.2.2.1) = true then false else (if (!g47_0 x0.2.2.2.2.2.1 x1.2.2.2.2.2.1) = true then false else (if (!g48_0 x0.2.2.2.2.2.2.1 x1.2.2.2.2.2.2.1) = true then false else (if (!g49_0 x0.2.2.2.2.2.2.2.1 x1.2.2.2.2.2.2.2.1) = true then false else (if (!g50_0 x0.2.2.2.2.2.2.2.2.1 x1.2.2.2.2.2.2.2.2.1) = true then false else (if (!g51_0 x0.2.2.2.2.2.2.2.2.2.1 x1.2.2.2.2.2.2.2.2.2.1) = true then false else (if (!g52_0 x0.2.2.2.2.2.2.2.2.2.2.1 x1.2.2.2.2.2.2.2.2.2.2.1) = true then false else (if (!g53_0 x0.2.2.2.2.2.2.2.2.2.2.2.1 x1.2.2.2.2.2.2.2.2.2.2.2.1) = true then false else true))))))))))))
theorem p8_0 (x0 : TyA0) (x1 : TyA0) : runF tab ext8 false 77 [] 2000 [] oks8 kds8 tys8 Tryz.f8.results [true] [.code b8] (entE 0 0 sig8 (x0, x1, ())) (entL sig8 (x0, x1, ())) = some ([Dyn.mk Ty.bool false], [], [True, (!g42_0 x0.1 x1.1) = true]) := by kernel_rfl
theorem p8_1 (x0 : TyA0) (x1 : TyA0) : runF tab ext8 false 77 [] 2000 [] oks8 kds8 tys8 Tryz.f8.results [false, true] [.code b8] (entE 0 0 sig8 (x0, x1, ())) (entL sig8 (x0, x1, ())) = some ([Dyn.mk Ty.bool false], [], [True, (!g42_0 x0.1 x1.1) = false, True, (!g43_0 x0.2.1 x1.2.1) = true]) := by kernel_rfl
theorem p8_2 (x0 : TyA0) (x1 : TyA0) : runF tab ext8 false 77 [] 2000 [] oks8 kds8 tys8 Tryz.f8.results [false, false, true] [.code b8] (entE 0 0 sig8 (x0, x1, ())) (entL sig8 (x0, x1, ())) = some ([Dyn.mk Ty.bool false], [], [True, (!g42_0 x0.1 x1.1) = false, True, (!g43_0 x0.2.1 x1.2.1) = false, True, (!g44_0 x0.2.2.1 x1.2.2.1) = true]) := by kernel_rfl
theorem p8_3 (x0 : TyA0) (x1 : TyA0) : runF tab ext8 false 77 [] 2000 [] oks8 kds8 tys8 Tryz.f8.results [false, false, false, true] [.code b8] (entE 0 0 sig8 (x0, x1, ())) (entL sig8 (x0, x1, ())) = some ([Dyn.mk Ty.bool false], [], [True, (!g42_0 x0.1 x1.1) = false, True, (!g43_0 x0.2.1 x1.2.1) = false, True, (!g44_0 x0.2.2.1 x1.2.2.1) = false, True, (!g45_0 x0.2.2.2.1 x1.2.2.2.1) = true]) := by kernel_rfl
theorem p8_4 (x0 : TyA0) (x1 : TyA0) : runF tab ext8 false 77 [] 2000 [] oks8 kds8 tys8 Tryz.f8.results [false, false, false, false, true] [.code b8] (entE 0 0 sig8 (x0, x1, ())) (entL sig8 (x0, x1, ())) = some ([Dyn.mk Ty.bool false], [], [True, (!g42_0 x0.1 x1.1) = false, True, (!g43_0 x0.2.1 x1.2.1) = false, True, (!g44_0 x0.2.2.1 x1.2.2.1) = false, True, (!g45_0 x0.2.2.2.1 x1.2.2.2.1) = false, True, (!g46_0 x0.2.2.2.2.1 x1.2.2.2.2.1) = true]) := by kernel_rfl
theorem p8_5 (x0 : TyA0) (x1 : TyA0) : runF tab ext8 false 77 [] 2000 [] oks8 kds8 tys8 Tryz.f8.results [false, false, false, false, false, true] [.code b8] (entE 0 0 sig8 (x0, x1, ())) (entL sig8 (x0, x1, ())) = some ([Dyn.mk Ty.bool false], [], [True, (!g42_0 x0.1 x1.1) = false, True, (!g43_0 x0.2.1 x1.2.1) = false, True, (!g44_0 x0.2.2.1 x1.2.2.1) = false, True, (!g45_0 x0.2.2.2.1 x1.2.2.2.1) = false, True, (!g46_0 x0.2.2.2.2.1 x1.2.2.2.2.1) = false, True, (!g47_0 x0.2.2.2.2.2.1 x1.2.2.2.2.2.1) = true]) := by kernel_rfl
theorem p8_6 (x0 : TyA0) (x1 : TyA0) : runF tab ext8 false 77 [] 2000 [] oks8 kds8 tys8 Tryz.f8.results [false, false, false, false, false, false, true] [.code b8] (entE 0 0 sig8 (x0, x1, ())) (entL sig8 (x0, x1, ())) = some ([Dyn.mk Ty.bool false], [], [True, (!g42_0 x0.1 x1.1) = false, True, (!g43_0 x0.2.1 x1.2.1) = false, True, (!g44_0 x0.2.2.1 x1.2.2.1) = false, True, (!g45_0 x0.2.2.2.1 x1.2.2.2.1) = false, True, (!g46_0 x0.2.2.2.2.1 x1.2.2.2.2.1) = false, True, (!g47_0 x0.2.2.2.2.2.1 x1.2.2.2.2.2.1) = false, True, (!g48_0 x0.2.2.2.2.2.2.1 x1.2.2.2.2.2.2.1) = true]) := by kernel_rfl
theorem p8_7 (x0 : TyA0) (x1 : TyA0) : runF tab ext8 false 77 [] 2000 [] oks8 kds8 tys8 Tryz.f8.results [false, false, false, false, false, false, false, true] [.code b8] (entE 0 0 sig8 (x0, x1, ())) (entL sig8 (x0, x1, ())) = some ([Dyn.mk Ty.bool false], [], [True, (!g42_0 x0.1 x1.1) = false, True, (!g43_0 x0.2.1 x1.2.1) = false, True, (!g44_0 x0.2.2.1 x1.2.2.1) = false, True, (!g45_0 x0.2.2.2.1 x1.2.2.2.1) = false, True, (!g46_0 x0.2.2.2.2.1 x1.2.2.2.2.1) = false, True, (!g47_0 x0.2.2.2.2.2.1 x1.2.2.2.2.2.1) = false, True, (!g48_0 x0.2.2.2.2.2.2.1 x1.2.2.2.2.2.2.1) = false, True, (!g49_0 x0.2.2.2.2.2.2.2.1 x1.2.2.2.2.2.2.2.1) = true]) := by kernel_rfl
theorem p8_8 (x0 : TyA0) (x1 : TyA0) : runF tab ext8 false 77 [] 2000 [] oks8 kds8 tys8 Tryz.f8.results [false, false, false, false, false, false, false, false, true] [.code b8] (entE 0 0 sig8 (x0, x1, ())) (entL sig8 (x0, x1, ())) = some ([Dyn.mk Ty.bool false], [], [True, (!g42_0 x0.1 x1.1) = false, True, (!g43_0 x0.2.1 x1.2.1) = false, True, (!g44_0 x0.2.2.1 x1.2.2.1) = false, True, (!g45_0 x0.2.2.2.1 x1.2.2.2.1) = false, True, (!g46_0 x0.2.2.2.2.1 x1.2.2.2.2.1) = false, True, (!g47_0 x0.2.2.2.2.2.1 x1.2.2.2.2.2.1) = false, True, (!g48_0 x0.2.2.2.2.2.2.1 x1.2.2.2.2.2.2.1) = false, True, (!g49_0 x0.2.2.2.2.2.2.2.1 x1.2.2.2.2.2.2.2.1) = false, True, (!g50_0 x0.2.2.2.2.2.2.2.2.1 x1.2.2.2.2.2.2.2.2.1) = true]) := by kernel_rfl
theorem p8_9 (x0 : TyA0) (x1 : TyA0) : runF tab ext8 false 77 [] 2000 [] oks8 kds8 tys8 Tryz.f8.results [false, false, false, false, false, false, false, false, false, true] [.code b8] (entE 0 0 sig8 (x0, x1, ())) (entL sig8 (x0, x1, ())) = some ([Dyn.mk Ty.bool false], [], [True, (!g42_0 x0.1 x1.1) = false, True, (!g43_0 x0.2.1 x1.2.1) = false, True, (!g44_0 x0.2.2.1 x1.2.2.1) = false, True, (!g45_0 x0.2.2.2.1 x1.2.2.2.1) = false, True, (!g46_0 x0.2.2.2.2.1 x1.2.2.2.2.1) = false, True, (!g47_0 x0.2.2.2.2.2.1 x1.2.2.2.2.2.1) = false, True, (!g48_0 x0.2.2.2.2.2.2.1 x1.2.2.2.2.2.2.1) = false, True, (!g49_0 x0.2.2.2.2.2.2.2.1 x1.2.2.2.2.2.2.2.1) = false, True, (!g50_0 x0.2.2.2.2.2.2.2.2.1 x1.2.2.2.2.2.2.2.2.1) = false, True, (!g51_0 x0.2.2.2.2.2.2.2.2.2.1 x1.2.2.2.2.2.2.2.2.2.1) = true]) := by kernel_rfl
theorem p8_10 (x0 : TyA0) (x1 : TyA0) : runF tab ext8 false 77 [] 2000 [] oks8 kds8 tys8 Tryz.f8.results [false, false, false, false, false, false, false, false, false, false, true] [.code b8] (entE 0 0 sig8 (x0, x1, ())) (entL sig8 (x0, x1, ())) = some ([Dyn.mk Ty.bool false], [], [True, (!g42_0 x0.1 x1.1) = false, True, (!g43_0 x0.2.1 x1.2.1) = false, True, (!g44_0 x0.2.2.1 x1.2.2.1) = false, True, (!g45_0 x0.2.2.2.1 x1.2.2.2.1) = false, True, (!g46_0 x0.2.2.2.2.1 x1.2.2.2.2.1) = false, True, (!g47_0 x0.2.2.2.2.2.1 x1.2.2.2.2.2.1) = false, True, (!g48_0 x0.2.2.2.2.2.2.1 x1.2.2.2.2.2.2.1) = false, True, (!g49_0 x0.2.2.2.2.2.2.2.1 x1.2.2.2.2.2.2.2.1) = false, True, (!g50_0 x0.2.2.2.2.2.2.2.2.1 x1.2.2.2.2.2.2.2.2.1) = false, True, (!g51_0 x0.2.2.2.2.2.2.2.2.2.1 x1.2.2.2.2.2.2.2.2.2.1) = false, True, (!g52_0 x0.2.2.2.2.2.2.2.2.2.2.1 x1.2.2.2.2.2.2.2.2.2.2.1) = true]) := by kernel_rfl
theorem p8_11 (x0 : TyA0) (x1 : TyA0) : runF tab ext8 false 77 [] 2000 [] oks8 kds8 tys8 Tryz.f8.results [false, false, false, false, false, false, false, false, false, false, false, true] [.code b8] (entE 0 0 sig8 (x0, x1, ())) (entL sig8 (x0, x1, ())) = some ([Dyn.mk Ty.bool false], [], [True, (!g42_0 x0.1 x1.1) = false, True, (!g43_0 x0.2.1 x1.2.1) = false, True, (!g44_0 x0.2.2.1 x1.2.2.1) = false, True, (!g45_0 x0.2.2.2.1 x1.2.2.2.1) = false, True, (!g46_0 x0.2.2.2.2.1 x1.2.2.2.2.1) = false, True, (!g47_0 x0.2.2.2.2.2.1 x1.2.2.2.2.2.1) = false, True, (!g48_0 x0.2.2.2.2.2.2.1 x1.2.2.2.2.2.2.1) = false, True, (!g49_0 x0.2.2.2.2.2.2.2.1 x1.2.2.2.2.2.2.2.1) = false, True, (!g50_0 x0.2.2.2.2.2.2.2.2.1 x1.2.2.2.2.2.2.2.2.1) = false, True, (!g51_0 x0.2.2.2.2.2.2.2.2.2.1 x1.2.2.2.2.2.2.2.2.2.1) = false, True, (!g52_0 x0.2.2.2.2.2.2.2.2.2.2.1 x1.2.2.2.2.2.2.2.2.2.2.1) = false, True, (!g53_0 x0.2.2.2.2.2.2.2.2.2.2.2.1 x1.2.2.2.2.2.2.2.2.2.2.2.1) = true]) := by kernel_rfl
theorem p8_12 (x0 : TyA0) (x1 : TyA0) : runF tab ext8 false 77 [] 2000 [] oks8 kds8 tys8 Tryz.f8.results [false, false, false, false, false, false, false, false, false, false, false, false] [.code b8] (entE 0 0 sig8 (x0, x1, ())) (entL sig8 (x0, x1, ())) = some ([Dyn.mk Ty.bool true], [], [True, (!g42_0 x0.1 x1.1) = false, True, (!g43_0 x0.2.1 x1.2.1) = false, True, (!g44_0 x0.2.2.1 x1.2.2.1) = false, True, (!g45_0 x0.2.2.2.1 x1.2.2.2.1) = false, True, (!g46_0 x0.2.2.2.2.1 x1.2.2.2.2.1) = false, True, (!g47_0 x0.2.2.2.2.2.1 x1.2.2.2.2.2.1) = false, True, (!g48_0 x0.2.2.2.2.2.2.1 x1.2.2.2.2.2.2.1) = false, True, (!g49_0 x0.2.2.2.2.2.2.2.1 x1.2.2.2.2.2.2.2.1) = false, True, (!g50_0 x0.2.2.2.2.2.2.2.2.1 x1.2.2.2.2.2.2.2.2.1) = false, True, (!g51_0 x0.2.2.2.2.2.2.2.2.2.1 x1.2.2.2.2.2.2.2.2.2.1) = false, True, (!g52_0 x0.2.2.2.2.2.2.2.2.2.2.1 x1.2.2.2.2.2.2.2.2.2.2.1) = false, True, (!g53_0 x0.2.2.2.2.2.2.2.2.2.2.2.1 x1.2.2.2.2.2.2.2.2.2.2.2.1) = false]) := by kernel_rfl
theorem at8 (x0 : TyA0) (x1 : TyA0) (h : P8 x0 x1) (K : Ctx) (q : Nat → Value) : AtV Tryz.prog 8 (PostR kds8 oks8 [⟨Ty.bool, g8_0 x0 x1⟩] [] [] q K) 77 K q [] [.code b8] (entE 0 0 sig8 (x0, x1, ())) (entL sig8 (x0, x1, ())) := by
  unfold P8 at h
  unfold g8_0
  by_cases b0 : (!g42_0 x0.1 x1.1) = true
  · try simp only [if_pos b0] at h ⊢
    exact AtV.fin Tryz.func8 tabOk ext8Ok mixed (p8_0 x0 x1) ⟨trivial, b0, trivial⟩
  · try simp only [if_neg b0] at h ⊢
    replace b0 := Bool.eq_false_iff.2 b0
    by_cases b1 : (!g43_0 x0.2.1 x1.2.1) = true
    · try simp only [if_pos b1] at h ⊢
      exact AtV.fin Tryz.func8 tabOk ext8Ok mixed (p8_1 x0 x1) ⟨trivial, b0, trivial, b1, trivial⟩
    · try simp only [if_neg b1] at h ⊢
      replace b1 := Bool.eq_false_iff.2 b1
      by_cases b2 : (!g44_0 x0.2.2.1 x1.2.2.1) = true
      · try simp only [if_pos b2] at h ⊢
        exact AtV.fin Tryz.func8 tabOk ext8Ok mixed (p8_2 x0 x1) ⟨trivial, b0, trivial, b1, trivial, b2, trivial⟩
      · try simp only [if_neg b2] at h ⊢
        replace b2 := Bool.eq_false_iff.2 b2
        by_cases b3 : (!g45_0 x0.2.2.2.1 x1.2.2.2.1) = true
        · try simp only [if_pos b3] at h ⊢
          exact AtV.fin Tryz.func8 tabOk ext8Ok mixed (p8_3 x0 x1) ⟨trivial, b0, trivial, b1, trivial, b2, trivial, b3, trivial⟩
        · try simp only [if_neg b3] at h ⊢
          replace b3 := Bool.eq_false_iff.2 b3
          by_cases b4 : (!g46_0 x0.2.2.2.2.1 x1.2.2.2.2.1) = true
          · try simp only [if_pos b4] at h ⊢
            exact AtV.fin Tryz.func8 tabOk ext8Ok mixed (p8_4 x0 x1) ⟨trivial, b0, trivial, b1, trivial, b2, trivial, b3, trivial, b4, trivial⟩
          · try simp only [if_neg b4] at h ⊢
            replace b4 := Bool.eq_false_iff.2 b4
            by_cases b5 : (!g47_0 x0.2.2.2.2.2.1 x1.2.2.2.2.2.1) = true
            · try simp only [if_pos b5] at h ⊢
              exact AtV.fin Tryz.func8 tabOk ext8Ok mixed (p8_5 x0 x1) ⟨trivial, b0, trivial, b1, trivial, b2, trivial, b3, trivial, b4, trivial, b5, trivial⟩
            · try simp only [if_neg b5] at h ⊢
              replace b5 := Bool.eq_false_iff.2 b5
              by_cases b6 : (!g48_0 x0.2.2.2.2.2.2.1 x1.2.2.2.2.2.2.1) = true
              · try simp only [if_pos b6] at h ⊢
                exact AtV.fin Tryz.func8 tabOk ext8Ok mixed (p8_6 x0 x1) ⟨trivial, b0, trivial, b1, trivial, b2, trivial, b3, trivial, b4, trivial, b5, trivial, b6, trivial⟩
              · try simp only [if_neg b6] at h ⊢
                replace b6 := Bool.eq_false_iff.2 b6
                by_cases b7 : (!g49_0 x0.2.2.2.2.2.2.2.1 x1.2.2.2.2.2.2.2.1) = true
                · try simp only [if_pos b7] at h ⊢
                  exact AtV.fin Tryz.func8 tabOk ext8Ok mixed (p8_7 x0 x1) ⟨trivial, b0, trivial, b1, trivial, b2, trivial, b3, trivial, b4, trivial, b5, trivial, b6, trivial, b7, trivial⟩
                · try simp only [if_neg b7] at h ⊢
                  replace b7 := Bool.eq_false_iff.2 b7
                  by_cases b8 : (!g50_0 x0.2.2.2.2.2.2.2.2.1 x1.2.2.2.2.2.2.2.2.1) = true
                  · try simp only [if_pos b8] at h ⊢
                    exact AtV.fin Tryz.func8 tabOk ext8Ok mixed (p8_8 x0 x1) ⟨trivial, b0, trivial, b1, trivial, b2, trivial, b3, trivial, b4, trivial, b5, trivial, b6, trivial, b7, trivial, b8, trivial⟩
                  · try simp only [if_neg b8] at h ⊢
                    replace b8 := Bool.eq_false_iff.2 b8
                    by_cases b9 : (!g51_0 x0.2.2.2.2.2.2.2.2.2.1 x1.2.2.2.2.2.2.2.2.2.1) = true
                    · try simp only [if_pos b9] at h ⊢
                      exact AtV.fin Tryz.func8 tabOk ext8Ok mixed (p8_9 x0 x1) ⟨trivial, b0, trivial, b1, trivial, b2, trivial, b3, trivial, b4, trivial, b5, trivial, b6, trivial, b7, trivial, b8, trivial, b9, trivial⟩
                    · try simp only [if_neg b9] at h ⊢
                      replace b9 := Bool.eq_false_iff.2 b9
                      by_cases b10 : (!g52_0 x0.2.2.2.2.2.2.2.2.2.2.1 x1.2.2.2.2.2.2.2.2.2.2.1) = true
                      · try simp only [if_pos b10] at h ⊢
                        exact AtV.fin Tryz.func8 tabOk ext8Ok mixed (p8_10 x0 x1) ⟨trivial, b0, trivial, b1, trivial, b2, trivial, b3, trivial, b4, trivial, b5, trivial, b6, trivial, b7, trivial, b8, trivial, b9, trivial, b10, trivial⟩
                      · try simp only [if_neg b10] at h ⊢
                        replace b10 := Bool.eq_false_iff.2 b10
                        by_cases b11 : (!g53_0 x0.2.2.2.2.2.2.2.2.2.2.2.1 x1.2.2.2.2.2.2.2.2.2.2.2.1) = true
                        · try simp only [if_pos b11] at h ⊢
                          exact AtV.fin Tryz.func8 tabOk ext8Ok mixed (p8_11 x0 x1) ⟨trivial, b0, trivial, b1, trivial, b2, trivial, b3, trivial, b4, trivial, b5, trivial, b6, trivial, b7, trivial, b8, trivial, b9, trivial, b10, trivial, b11, trivial⟩
                        · try simp only [if_neg b11] at h ⊢
                          replace b11 := Bool.eq_false_iff.2 b11
                          exact AtV.fin Tryz.func8 tabOk ext8Ok mixed (p8_12 x0 x1) ⟨trivial, b0, trivial, b1, trivial, b2, trivial, b3, trivial, b4, trivial, b5, trivial, b6, trivial, b7, trivial, b8, trivial, b9, trivial, b10, trivial, b11, trivial⟩

def S8 : Am.Spec := { sig := sig8, pre := fun ⟨x0, x1, _⟩ => P8 x0 x1, res := fun ⟨x0, x1, _⟩ => [⟨Ty.bool, g8_0 x0 x1⟩], kds := kds8 }
theorem con8 : Contract Tryz.prog 8 S8 := contract_of Tryz.func8 hb8 (Nat.le_of_ble_eq_true (by kernel_rfl)) (fun ⟨x0, x1, _⟩ h _ K q => at8 x0 x1 h K q)


end
end Go.Proofs.YtcakiedjgnhjcaaGreat

/- Function 3 (laws.FnExactValidDesk): its runs between cut points. Written by a program of this repo (gen). -/
set_option linter.unusedVariables false
set_option linter.unusedSimpArgs false
set_option maxRecDepth 100000
namespace Go.Proofs.YtcakiedjgnhjcaaGreat
open Go Go.Am Go.Proofs
noncomputable section
def ext3 : Ext := [(4, S4), (6, S6), (5, S5), (7, S7), (8, S8)]
theorem call3_4 : Callable Tryz.prog 4 := ⟨Tryz.f4, Tryz.func4, by kernel_rfl, by kernel_rfl⟩
theorem call3_6 : Callable Tryz.prog 6 := ⟨Tryz.f6, Tryz.func6, by kernel_rfl, by kernel_rfl⟩
theorem call3_5 : Callable Tryz.prog 5 := ⟨Tryz.f5, Tryz.func5, by kernel_rfl, by kernel_rfl⟩
theorem call3_7 : Callable Tryz.prog 7 := ⟨Tryz.f7, Tryz.func7, by kernel_rfl, by kernel_rfl⟩
theorem call3_8 : Callable Tryz.prog 8 := ⟨Tryz.f8, Tryz.func8, by kernel_rfl, by kernel_rfl⟩
theorem ext3Ok : ExtOk Tryz.prog ext3 := ⟨⟨call3_4, con4⟩, ⟨call3_6, con6⟩, ⟨call3_5, con5⟩, ⟨call3_7, con7⟩, ⟨call3_8, con8⟩, trivial⟩

noncomputable def b3 : Code := bodyOf Tryz.f3
theorem hb3 : Tryz.f3.body = some b3 := by kernel_rfl
def sig3 : List AT := [AT.v (Ty.cons (Ty.sl (Ty.cons Ty.str (Ty.cons (Ty.int .i64) (Ty.cons (Ty.int .i64) (Ty.cons (Ty.int .i64) Ty.unit))))) (Ty.cons (Ty.cons (Ty.int .i64) (Ty.cons (Ty.int .i64) (Ty.cons (Ty.int .i64) (Ty.cons (Ty.int .i64) Ty.unit)))) (Ty.cons (Ty.sl (Ty.cons (Ty.int .i64) (Ty.cons (Ty.int .i64) (Ty.cons (Ty.int .i64) Ty.unit)))) (Ty.cons (Ty.sl (Ty.cons (Ty.int .i64) (Ty.cons (Ty.int .i64) (Ty.cons (Ty.int .i64) Ty.unit)))) (Ty.cons (Ty.cons (Ty.int .i64) (Ty.cons (Ty.int .i64) (Ty.cons (Ty.int .i64) Ty.unit))) (Ty.cons (Ty.cons (Ty.int .i64) (Ty.cons (Ty.int .i64) (Ty.cons (Ty.int .i64) Ty.unit))) (Ty.cons (Ty.sl (Ty.cons Ty.str (Ty.cons (Ty.int .i64) (Ty.cons (Ty.int .i64) Ty.unit)))) (Ty.cons (Ty.cons (Ty.int .i64) (Ty.cons (Ty.int .i64) (Ty.cons (Ty.int .i64) (Ty.cons (Ty.int .i64) Ty.unit)))) (Ty.cons (Ty.sl (Ty.cons Ty.str (Ty.cons (Ty.int .i64) (Ty.cons (Ty.int .i64) (Ty.cons (Ty.int .i64) Ty.unit))))) (Ty.cons (Ty.sl (Ty.cons (Ty.int .i64) (Ty.cons (Ty.int .i64) (Ty.cons (Ty.int .i64) Ty.unit)))) (Ty.cons (Ty.sl (Ty.cons Ty.str (Ty.cons (Ty.int .i64) (Ty.cons (Ty.int .i64) Ty.unit)))) (Ty.cons (Ty.sl (Ty.cons Ty.str (Ty.cons (Ty.int .i64) (Ty.cons (Ty.int .i64) Ty.unit)))) Ty.unit))))))))))))]
def tys3 : List Ty := [Ty.bool]
def kds3 : List RK := []
def oks3 : List AT := owns sig3
def P3 (x0 : TyA0) : Prop := ((P4 x0 1048576) ∧ (if (decide (g4_0 x0 1048576 < 0)) = true then True else ((P6 x0) ∧ ((P6 x0) ∧ (if (!g7_0 ((g6_0 x0).1, ((g6_0 x0).2.1.1, (g6_0 x0).2.1.2.1, (g6_0 x0).2.1.2.2.1, (g6_0 x0).2.1.2.2.2.1, ()), (g6_0 x0).2.2.1, (g6_0 x0).2.2.2.1, ((g6_0 x0).2.2.2.2.1.1, (g6_0 x0).2.2.2.2.1.2.1, (g6_0 x0).2.2.2.2.1.2.2.1, ()), ((g6_0 x0).2.2.2.2.2.1.1, (g6_0 x0).2.2.2.2.2.1.2.1, (g6_0 x0).2.2.2.2.2.1.2.2.1, ()), (g6_0 x0).2.2.2.2.2.2.1, ((g6_0 x0).2.2.2.2.2.2.2.1.1, (g6_0 x0).2.2.2.2.2.2.2.1.2.1, (g6_0 x0).2.2.2.2.2.2.2.1.2.2.1, (g6_0 x0).2.2.2.2.2.2.2.1.2.2.2.1, ()), (g6_0 x0).2.2.2.2.2.2.2.2.1, (g6_0 x0).2.2.2.2.2.2.2.2.2.1, (g6_0 x0).2.2.2.2.2.2.2.2.2.2.1, (g6_0 x0).2.2.2.2.2.2.2.2.2.2.2.1, ()) == g5_0 (g6_0 x0)) = true then True else ((P6 x0) ∧ True))))))
def g3_0 (x0 : TyA0) : Bool := (if (decide (g4_0 x0 1048576 < 0)) = true then true else (if (!g7_0 ((g6_0 x0).1, ((g6_0 x0).2.1.1, (g6_0 x0).2.1.2.1, (g6_0 x0).2.1.2.2.1, (g6_0 x0).2.1.2.2.2.1, ()), (g6_0 x0).2.2.1, (g6_0 x0).2.2.2.1, ((g6_0 x0).2.2.2.2.1.1, (g6_0 x0).2.2.2.2.1.2.1, (g6_0 x0).2.2.2.2.1.2.2.1, ()), ((g6_0 x0).2.2.2.2.2.1.1, (g6_0 x0).2.2.2.2.2.1.2.1, (g6_0 x0).2.2.2.2.2.1.2.2.1, ()), (g6_0 x0).2.2.2.2.2.2.1, ((g6_0 x0).2.2.2.2.2.2.2.1.1, (g6_0 x0).2.2.2.2.2.2.2.1.2.1, (g6_0 x0).2.2.2.2.2.2.2.1.2.2.1, (g6_0 x0).2.2.2.2.2.2.2.1.2.2.2.1, ()), (g6_0 x0).2.2.2.2.2.2.2.2.1, (g6_0 x0).2.2.2.2.2.2.2.2.2.1, (g6_0 x0).2.2.2.2.2.2.2.2.2.2.1, (g6_0 x0).2.2.2.2.2.2.2.2.2.2.2.1, ()) == g5_0 (g6_0 x0)) = true then false else (if (!g8_0 ((g6_0 x0).1, ((g6_0 x0).2.1.1, (g6_0 x0).2.1.2.1, (g6_0 x0).2.1.2.2.1, (g6_0 x0).2.1.2.2.2.1, ()), (g6_0 x0).2.2.1, (g6_0 x0).2.2.2.1, ((g6_0 x0).2.2.2.2.1.1, (g6_0 x0).2.2.2.2.1.2.1, (g6_0 x0).2.2.2.2.1.2.2.1, ()), ((g6_0 x0).2.2.2.2.2.1.1, (g6_0 x0).2.2.2.2.2.1.2.1, (g6_0 x0).2.2.2.2.2.1.2.2.1, ()), (g6_0 x0).2.2.2.2.2.2.1, ((g6_0 x0).2.2.2.2.2.2.2.1.1, (g6_0 x0).2.2.2.2.2.2.2.1.2.1, (g6_0 x0).2.2.2.2.2.2.2.1.2.2.1, (g6_0 x0).2.2.2.2.2.2.2.1.2.2.2.1, ()), (g6_0 x0).2.2.2.2.2.2.2.2.1, (g6_0 x0).2.2.2.2.2.2.2.2.2.1, (g6_0 x0).2.2.2.2.2.2.2.2.2.2.1, (g6_0 x0).2.2.2.2.2.2.2.2.2.2.2.1, ()) (g6_0 x0)) = true then false else true)))
theorem p3_0 (x0 : TyA0) : runF tab ext3 false 27 [] 2000 [] oks3 kds3 tys3 Tryz.f3.results [true] [.code b3] (entE 0 0 sig3 (x0, ())) (entL sig3 (x0, ())) = some ([Dyn.mk Ty.bool true], [], [P4 x0 1048576, decide (g4_0 x0 1048576 < 0) = true]) := by kernel_rfl
theorem p3_1 (x0 : TyA0) : runF tab ext3 false 27 [] 2000 [] oks3 kds3 tys3 Tryz.f3.results [false, true] [.code b3] (entE 0 0 sig3 (x0, ())) (entL sig3 (x0, ())) = some ([Dyn.mk Ty.bool false], [], [P4 x0 1048576, decide (g4_0 x0 1048576 < 0) = false, P6 x0, True, P6 x0, True, (!g7_0 ((g6_0 x0).1, ((g6_0 x0).2.1.1, (g6_0 x0).2.1.2.1, (g6_0 x0).2.1.2.2.1, (g6_0 x0).2.1.2.2.2.1, ()), (g6_0 x0).2.2.1, (g6_0 x0).2.2.2.1, ((g6_0 x0).2.2.2.2.1.1, (g6_0 x0).2.2.2.2.1.2.1, (g6_0 x0).2.2.2.2.1.2.2.1, ()), ((g6_0 x0).2.2.2.2.2.1.1, (g6_0 x0).2.2.2.2.2.1.2.1, (g6_0 x0).2.2.2.2.2.1.2.2.1, ()), (g6_0 x0).2.2.2.2.2.2.1, ((g6_0 x0).2.2.2.2.2.2.2.1.1, (g6_0 x0).2.2.2.2.2.2.2.1.2.1, (g6_0 x0).2.2.2.2.2.2.2.1.2.2.1, (g6_0 x0).2.2.2.2.2.2.2.1.2.2.2.1, ()), (g6_0 x0).2.2.2.2.2.2.2.2.1, (g6_0 x0).2.2.2.2.2.2.2.2.2.1, (g6_0 x0).2.2.2.2.2.2.2.2.2.2.1, (g6_0 x0).2.2.2.2.2.2.2.2.2.2.2.1, ()) == g5_0 (g6_0 x0)) = true]) := by kernel_rfl
theorem p3_2 (x0 : TyA0) : runF tab ext3 false 27 [] 2000 [] oks3 kds3 tys3 Tryz.f3.results [false, false, true] [.code b3] (entE 0 0 sig3 (x0, ())) (entL sig3 (x0, ())) = some ([Dyn.mk Ty.bool false], [], [P4 x0 1048576, decide (g4_0 x0 1048576 < 0) = false, P6 x0, True, P6 x0, True, (!g7_0 ((g6_0 x0).1, ((g6_0 x0).2.1.1, (g6_0 x0).2.1.2.1, (g6_0 x0).2.1.2.2.1, (g6_0 x0).2.1.2.2.2.1, ()), (g6_0 x0).2.2.1, (g6_0 x0).2.2.2.1, ((g6_0 x0).2.2.2.2.1.1, (g6_0 x0).2.2.2.2.1.2.1, (g6_0 x0).2.2.2.2.1.2.2.1, ()), ((g6_0 x0).2.2.2.2.2.1.1, (g6_0 x0).2.2.2.2.2.1.2.1, (g6_0 x0).2.2.2.2.2.1.2.2.1, ()), (g6_0 x0).2.2.2.2.2.2.1, ((g6_0 x0).2.2.2.2.2.2.2.1.1, (g6_0 x0).2.2.2.2.2.2.2.1.2.1, (g6_0 x0).2.2.2.2.2.2.2.1.2.2.1, (g6_0 x0).2.2.2.2.2.2.2.1.2.2.2.1, ()), (g6_0 x0).2.2.2.2.2.2.2.2.1, (g6_0 x0).2.2.2.2.2.2.2.2.2.1, (g6_0 x0).2.2.2.2.2.2.2.2.2.2.1, (g6_0 x0).2.2.2.2.2.2.2.2.2.2.2.1, ()) == g5_0 (g6_0 x0)) = false, P6 x0, True, (!g8_0 ((g6_0 x0).1, ((g6_0 x0).2.1.1, (g6_0 x0).2.1.2.1, (g6_0 x0).2.1.2.2.1, (g6_0 x0).2.1.2.2.2.1, ()), (g6_0 x0).2.2.1, (g6_0 x0).2.2.2.1, ((g6_0 x0).2.2.2.2.1.1, (g6_0 x0).2.2.2.2.1.2.1, (g6_0 x0).2.2.2.2.1.2.2.1, ()), ((g6_0 x0).2.2.2.2.2.1.1, (g6_0 x0).2.2.2.2.2.1.2.1, (g6_0 x0).2.2.2.2.2.1.2.2.1, ()), (g6_0 x0).2.2.2.2.2.2.1, ((g6_0 x0).2.2.2.2.2.2.2.1.1, (g6_0 x0).2.2.2.2.2.2.2.1.2.1, (g6_0 x0).2.2.2.2.2.2.2.1.2.2.1, (g6_0 x0).2.2.2.2.2.2.2.1.2.2.2.1, ()), (g6_0 x0).2.2.2.2.2.2.2.2.1, (g6_0 x0).2.2.2.2.2.2.2.2.2.1, (g6_0 x0).2.2.2.2.2.2.2.2.2.2.1, (g6_0 x0).2.2.2.2.2.2.2.2.2.2.2.1, ()) (g6_0 x0)) = true]) := by kernel_rfl
theorem p3_3 (x0 : TyA0) : runF tab ext3 false 27 [] 2000 [] oks3 kds3 tys3 Tryz.f3.results [false, false, false] [.code b3] (entE 0 0 sig3 (x0, ())) (entL sig3 (x0, ())) = some ([Dyn.mk Ty.bool true], [], [P4 x0 1048576, decide (g4_0 x0 1048576 < 0) = false, P6 x0, True, P6 x0, True, (!g7_0 ((g6_0 x0).1, ((g6_0 x0).2.1.1, (g6_0 x0).2.1.2.1, (g6_0 x0).2.1.2.2.1, (g6_0 x0).2.1.2.2.2.1, ()), (g6_0 x0).2.2.1, (g6_0 x0).2.2.2.1, ((g6_0 x0).2.2.2.2.1.1, (g6_0 x0).2.2.2.2.1.2.1, (g6_0 x0).2.2.2.2.1.2.2.1, ()), ((g6_0 x0).2.2.2.2.2.1.1, (g6_0 x0).2.2.2.2.2.1.2.1, (g6_0 x0).2.2.2.2.2.1.2.2.1, ()), (g6_0 x0).2.2.2.2.2.2.1, ((g6_0 x0).2.2.2.2.2.2.2.1.1, (g6_0 x0).2.2.2.2.2.2.2.1.2.1, (g6_0 x0).2.2.2.2.2.2.2.1.2.2.1, (g6_0 x0).2.2.2.2.2.2.2.1.2.2.2.1, ()), (g6_0 x0).2.2.2.2.2.2.2.2.1, (g6_0 x0).2.2.2.2.2.2.2.2.2.1, (g6_0 x0).2.2.2.2.2.2.2.2.2.2.1, (g6_0 x0).2.2.2.2.2.2.2.2.2.2.2.1, ()) == g5_0 (g6_0 x0)) = false, P6 x0, True, (!g8_0 ((g6_0 x0).1, ((g6_0 x0).2.1.1, (g6_0 x0).2.1.2.1, (g6_0 x0).2.1.2.2.1, (g6_0 x0).2.1.2.2.2.1, ()), (g6_0 x0).2.2.1, (g6_0 x0).2.2.2.1, ((g6_0 x0).2.2.2.2.1.1, (g6_0 x0).2.2.2.2.1.2.1, (g6_0 x0).2.2.2.2.1.2.2.1, ()), ((g6_0 x0).2.2.2.2.2.1.1, (g6_0 x0).2.2.2.2.2.1.2.1, (g6_0 x0).2.2.2.2.2.1.2.2.1, ()), (g6_0 x0).2.2.2.2.2.2.1, ((g6_0 x0).2.2.2.2.2.2.2.1.1, (g6_0 x0).2.2.2.2.2.2.2.1.2.1, (g6_0 x0).2.2.2.2.2.2.2.1.2.2.1, (g6_0 x0).2.2.2.2.2.2.2.1.2.2.2.1, ()), (g6_0 x0).2.2.2.2.2.2.2.2.1, (g6_0 x0).2.2.2.2.2.2.2.2.2.1, (g6_0 x0).2.2.2.2.2.2.2.2.2.2.1, (g6_0 x0).2.2.2.2.2.2.2.2.2.2.2.1, ()) (g6_0 x0)) = false]) := by kernel_rfl
theorem at3 (x0 : TyA0) (h : P3 x0) (K : Ctx) (q : Nat → Value) : AtV Tryz.prog 3 (PostR kds3 oks3 [⟨Ty.bool, g3_0 x0⟩] [] [] q K) 27 K q [] [.code b3] (entE 0 0 sig3 (x0, ())) (entL sig3 (x0, ())) := by
  unfold P3 at h
  unfold g3_0
  obtain ⟨s0, h⟩ := h
  by_cases b0 : (decide (g4_0 x0 1048576 < 0)) = true
  · try simp only [if_pos b0] at h ⊢
    exact AtV.fin Tryz.func3 tabOk ext3Ok mixed (p3_0 x0) ⟨s0, b0, trivial⟩
  · try simp only [if_neg b0] at h ⊢
    replace b0 := Bool.eq_false_iff.2 b0
    obtain ⟨s1, h⟩ := h
    obtain ⟨s2, h⟩ := h
    by_cases b1 : (!g7_0 ((g6_0 x0).1, ((g6_0 x0).2.1.1, (g6_0 x0).2.1.2.1, (g6_0 x0).2.1.2.2.1, (g6_0 x0).2.1.2.2.2.1, ()), (g6_0 x0).2.2.1, (g6_0 x0).2.2.2.1, ((g6_0 x0).2.2.2.2.1.1, (g6_0 x0).2.2.2.2.1.2.1, (g6_0 x0).2.2.2.2.1.2.2.1, ()), ((g6_0 x0).2.2.2.2.2.1.1, (g6_0 x0).2.2.2.2.2.1.2.1, (g6_0 x0).2.2.2.2.2.1.2.2.1, ()), (g6_0 x0).2.2.2.2.2.2.1, ((g6_0 x0).2.2.2.2.2.2.2.1.1, (g6_0 x0).2.2.2.2.2.2.2.1.2.1, (g6_0 x0).2.2.2.2.2.2.2.1.2.2.1, (g6_0 x0).2.2.2.2.2.2.2.1.2.2.2.1, ()), (g6_0 x0).2.2.2.2.2.2.2.2.1, (g6_0 x0).2.2.2.2.2.2.2.2.2.1, (g6_0 x0).2.2.2.2.2.2.2.2.2.2.1, (g6_0 x0).2.2.2.2.2.2.2.2.2.2.2.1, ()) == g5_0 (g6_0 x0)) = true
    · try simp only [if_pos b1] at h ⊢
      exact AtV.fin Tryz.func3 tabOk ext3Ok mixed (p3_1 x0) ⟨s0, b0, s1, trivial, s2, trivial, b1, trivial⟩
    · try simp only [if_neg b1] at h ⊢
      replace b1 := Bool.eq_false_iff.2 b1
      obtain ⟨s3, h⟩ := h
      by_cases b2 : (!g8_0 ((g6_0 x0).1, ((g6_0 x0).2.1.1, (g6_0 x0).2.1.2.1, (g6_0 x0).2.1.2.2.1, (g6_0 x0).2.1.2.2.2.1, ()), (g6_0 x0).2.2.1, (g6_0 x0).2.2.2.1, ((g6_0 x0).2.2.2.2.1.1, (g6_0 x0).2.2.2.2.1.2.1, (g6_0 x0).2.2.2.2.1.2.2.1, ()), ((g6_0 x0).2.2.2.2.2.1.1, (g6_0 x0).2.2.2.2.2.1.2.1, (g6_0 x0).2.2.2.2.2.1.2.2.1, ()), (g6_0 x0).2.2.2.2.2.2.1, ((g6_0 x0).2.2.2.2.2.2.2.1.1, (g6_0 x0).2.2.2.2.2.2.2.1.2.1, (g6_0 x0).2.2.2.2.2.2.2.1.2.2.1, (g6_0 x0).2.2.2.2.2.2.2.1.2.2.2.1, ()), (g6_0 x0).2.2.2.2.2.2.2.2.1, (g6_0 x0).2.2.2.2.2.2.2.2.2.1, (g6_0 x0).2.2.2.2.2.2.2.2.2.2.1, (g6_0 x0).2.2.2.2.2.2.2.2.2.2.2.1, ()) (g6_0 x0)) = true
      · try simp only [if_pos b2] at h ⊢
        exact AtV.fin Tryz.func3 tabOk ext3Ok mixed (p3_2 x0) ⟨s0, b0, s1, trivial, s2, trivial, b1, s3, trivial, b2, trivial⟩
      · try simp only [if_neg b2] at h ⊢
        replace b2 := Bool.eq_false_iff.2 b2
        exact AtV.fin Tryz.func3 tabOk ext3Ok mixed (p3_3 x0) ⟨s0, b0, s1, trivial, s2, trivial, b1, s3, trivial, b2, trivial⟩

def S3 : Am.Spec := { sig := sig3, pre := fun ⟨x0, _⟩ => P3 x0, res := fun ⟨x0, _⟩ => [⟨Ty.bool, g3_0 x0⟩], kds := kds3 }
theorem con3 : Contract Tryz.prog 3 S3 := contract_of Tryz.func3 hb3 (Nat.le_of_ble_eq_true (by kernel_rfl)) (fun ⟨x0, _⟩ h _ K q => at3 x0 h K q)


end
end Go.Proofs.YtcakiedjgnhjcaaGreat

/- A law that says how functions of the program and of the specification hang together. -/
set_option linter.unusedVariables false
set_option linter.unusedSimpArgs false
set_option maxRecDepth 100000
namespace Go.Proofs.YtcakiedjgnhjcaaGreat
open Go Go.Am Go.Proofs

theorem szs_Bend (xs : List TyB0) (l : Int) (h0 : 0 ≤ l) (hi : l ≤ 1048576) (hw : Wf (.sl (.cons .str (.cons (.int .i64) (.cons (.int .i64) (.cons (.int .i64) .unit))))) xs) : P9 xs l ∧ (¬ g9_0 xs l < 0 → g9_0 xs l ≤ l - xs.length) := by
  have hi' : InR .i64 l := by rw [i64_iff]; omega
  exact ⟨h0, fun hg => g9_le xs l h0 hi' hw hg⟩

theorem szs_Hour (xs : List TyB2) (l : Int) (h0 : 0 ≤ l) (hi : l ≤ 1048576) (hw : Wf (.sl (.cons (.int .i64) (.cons (.int .i64) (.cons (.int .i64) .unit)))) xs) : P10 xs l ∧ (¬ g10_0 xs l < 0 → g10_0 xs l ≤ l - xs.length) := by
  have hi' : InR .i64 l := by rw [i64_iff]; omega
  have hm : xs.length ≤ 9223372036854775807 := hw.1
  refine ⟨⟨by rw [i64_iff]; omega, trivial⟩, fun hg => (g10_le xs l h0 hi' hw hg).2⟩

theorem szs_Limit (xs : List TyB2) (l : Int) (h0 : 0 ≤ l) (hi : l ≤ 1048576) (hw : Wf (.sl (.cons (.int .i64) (.cons (.int .i64) (.cons (.int .i64) .unit)))) xs) : P11 xs l ∧ (¬ g11_0 xs l < 0 → g11_0 xs l ≤ l - xs.length) := by
  have hi' : InR .i64 l := by rw [i64_iff]; omega
  have hm : xs.length ≤ 9223372036854775807 := hw.1
  refine ⟨⟨by rw [i64_iff]; omega, trivial⟩, fun hg => (g11_le xs l h0 hi' hw hg).2⟩

theorem szs_Worker (xs : List TyB1) (l : Int) (h0 : 0 ≤ l) (hi : l ≤ 1048576) (hw : Wf (.sl (.cons .str (.cons (.int .i64) (.cons (.int .i64) .unit)))) xs) : P12 xs l ∧ (¬ g12_0 xs l < 0 → g12_0 xs l ≤ l - xs.length) := by
  have hi' : InR .i64 l := by rw [i64_iff]; omega
  exact ⟨h0, fun hg => g12_le xs l h0 hi' hw hg⟩

theorem szs_Fare (xs : List TyB0) (l : Int) (h0 : 0 ≤ l) (hi : l ≤ 1048576) (hw : Wf (.sl (.cons .str (.cons (.int .i64) (.cons (.int .i64) (.cons (.int .i64) .unit))))) xs) : P13 xs l ∧ (¬ g13_0 xs l < 0 → g13_0 xs l ≤ l - xs.length) := by
  have hi' : InR .i64 l := by rw [i64_iff]; omega
  exact ⟨h0, fun hg => g13_le xs l h0 hi' hw hg⟩

theorem szs_Test (xs : List TyB2) (l : Int) (h0 : 0 ≤ l) (hi : l ≤ 1048576) (hw : Wf (.sl (.cons (.int .i64) (.cons (.int .i64) (.cons (.int .i64) .unit)))) xs) : P14 xs l ∧ (¬ g14_0 xs l < 0 → g14_0 xs l ≤ l - xs.length) := by
  have hi' : InR .i64 l := by rw [i64_iff]; omega
  have hm : xs.length ≤ 9223372036854775807 := hw.1
  refine ⟨⟨by rw [i64_iff]; omega, trivial⟩, fun hg => (g14_le xs l h0 hi' hw hg).2⟩

theorem szs_Helper (xs : List TyB1) (l : Int) (h0 : 0 ≤ l) (hi : l ≤ 1048576) (hw : Wf (.sl (.cons .str (.cons (.int .i64) (.cons (.int .i64) .unit)))) xs) : P15 xs l ∧ (¬ g15_0 xs l < 0 → g15_0 xs l ≤ l - xs.length) := by
  have hi' : InR .i64 l := by rw [i64_iff]; omega
  exact ⟨h0, fun hg => g15_le xs l h0 hi' hw hg⟩

theorem szs_Task (xs : List TyB1) (l : Int) (h0 : 0 ≤ l) (hi : l ≤ 1048576) (hw : Wf (.sl (.cons .str (.cons (.int .i64) (.cons (.int .i64) .unit)))) xs) : P16 xs l ∧ (¬ g16_0 xs l < 0 → g16_0 xs l ≤ l - xs.length) := by
  have hi' : InR .i64 l := by rw [i64_iff]; omega
  exact ⟨h0, fun hg => g16_le xs l h0 hi' hw hg⟩

theorem sz_desk (x : (TyA0)) (l : Int) (h0 : 0 ≤ l) (hi : l ≤ 1048576) (hw : Wf (.cons (.sl (.cons .str (.cons (.int .i64) (.cons (.int .i64) (.cons (.int .i64) .unit))))) (.cons (.cons (.int .i64) (.cons (.int .i64) (.cons (.int .i64) (.cons (.int .i64) .unit)))) (.cons (.sl (.cons (.int .i64) (.cons (.int .i64) (.cons (.int .i64) .unit)))) (.cons (.sl (.cons (.int .i64) (.cons (.int .i64) (.cons (.int .i64) .unit)))) (.cons (.cons (.int .i64) (.cons (.int .i64) (.cons (.int .i64) .unit))) (.cons (.cons (.int .i64) (.cons (.int .i64) (.cons (.int .i64) .unit))) (.cons (.sl (.cons .str (.cons (.int .i64) (.cons (.int .i64) .unit)))) (.cons (.cons (.int .i64) (.cons (.int .i64) (.cons (.int .i64) (.cons (.int .i64) .unit)))) (.cons (.sl (.cons .str (.cons (.int .i64) (.cons (.int .i64) (.cons (.int .i64) .unit))))) (.cons (.sl (.cons (.int .i64) (.cons (.int .i64) (.cons (.int .i64) .unit)))) (.cons (.sl (.cons .str (.cons (.int .i64) (.cons (.int .i64) .unit)))) (.cons (.sl (.cons .str (.cons (.int .i64) (.cons (.int .i64) .unit)))) .unit)))))))))))) x) : P4 x l ∧ (¬ g4_0 x l < 0 → 0 ≤ g4_0 x l ∧ g4_0 x l ≤ l ∧ (x.1.length : Int) ≤ l ∧ (x.2.2.1.length : Int) ≤ l ∧ (x.2.2.2.1.length : Int) ≤ l ∧ (x.2.2.2.2.2.2.1.length : Int) ≤ l ∧ (x.2.2.2.2.2.2.2.2.1.length : Int) ≤ l ∧ (x.2.2.2.2.2.2.2.2.2.1.length : Int) ≤ l ∧ (x.2.2.2.2.2.2.2.2.2.2.1.length : Int) ≤ l ∧ (x.2.2.2.2.2.2.2.2.2.2.2.1.length : Int) ≤ l) := by
  unfold P4 g4_0
  obtain ⟨p0, q0⟩ := szs_Bend x.1 l (by omega) (by omega) hw.1
  by_cases c0 : (g9_0 x.1 l) < 0
  · simp only [c0, p0, decide_true, decide_false, Bool.false_eq_true, if_true, if_false, and_true, true_and]
    try exact ⟨trivial, fun h => absurd (show (-1 : Int) < 0 by decide) h⟩
    try exact fun h => absurd (show (-1 : Int) < 0 by decide) h
  have r0 := q0 c0
  obtain ⟨p1, q1⟩ := szs_Hour x.2.2.1 (g9_0 x.1 l) (by omega) (by omega) hw.2.2.1
  by_cases c1 : (g10_0 x.2.2.1 (g9_0 x.1 l)) < 0
  · simp only [c0, p0, c1, p1, decide_true, decide_false, Bool.false_eq_true, if_true, if_false, and_true, true_and]
    try exact ⟨trivial, fun h => absurd (show (-1 : Int) < 0 by decide) h⟩
    try exact fun h => absurd (show (-1 : Int) < 0 by decide) h
  have r1 := q1 c1
  obtain ⟨p2, q2⟩ := szs_Limit x.2.2.2.1 (g10_0 x.2.2.1 (g9_0 x.1 l)) (by omega) (by omega) hw.2.2.2.1
  by_cases c2 : (g11_0 x.2.2.2.1 (g10_0 x.2.2.1 (g9_0 x.1 l))) < 0
  · simp only [c0, p0, c1, p1, c2, p2, decide_true, decide_false, Bool.false_eq_true, if_true, if_false, and_true, true_and]
    try exact ⟨trivial, fun h => absurd (show (-1 : Int) < 0 by decide) h⟩
    try exact fun h => absurd (show (-1 : Int) < 0 by decide) h
  have r2 := q2 c2
  obtain ⟨p3, q3⟩ := szs_Worker x.2.2.2.2.2.2.1 (g11_0 x.2.2.2.1 (g10_0 x.2.2.1 (g9_0 x.1 l))) (by omega) (by omega) hw.2.2.2.2.2.2.1
  by_cases c3 : (g12_0 x.2.2.2.2.2.2.1 (g11_0 x.2.2.2.1 (g10_0 x.2.2.1 (g9_0 x.1 l)))) < 0
  · simp only [c0, p0, c1, p1, c2, p2, c3, p3, decide_true, decide_false, Bool.false_eq_true, if_true, if_false, and_true, true_and]
    try exact ⟨trivial, fun h => absurd (show (-1 : Int) < 0 by decide) h⟩
    try exact fun h => absurd (show (-1 : Int) < 0 by decide) h
  have r3 := q3 c3
  obtain ⟨p4, q4⟩ := szs_Fare x.2.2.2.2.2.2.2.2.1 (g12_0 x.2.2.2.2.2.2.1 (g11_0 x.2.2.2.1 (g10_0 x.2.2.1 (g9_0 x.1 l)))) (by omega) (by omega) hw.2.2.2.2.2.2.2.2.1
  by_cases c4 : (g13_0 x.2.2.2.2.2.2.2.2.1 (g12_0 x.2.2.2.2.2.2.1 (g11_0 x.2.2.2.1 (g10_0 x.2.2.1 (g9_0 x.1 l))))) < 0
  · simp only [c0, p0, c1, p1, c2, p2, c3, p3, c4, p4, decide_true, decide_false, Bool.false_eq_true, if_true, if_false, and_true, true_and]
    try exact ⟨trivial, fun h => absurd (show (-1 : Int) < 0 by decide) h⟩
    try exact fun h => absurd (show (-1 : Int) < 0 by decide) h
  have r4 := q4 c4
  obtain ⟨p5, q5⟩ := szs_Test x.2.2.2.2.2.2.2.2.2.1 (g13_0 x.2.2.2.2.2.2.2.2.1 (g12_0 x.2.2.2.2.2.2.1 (g11_0 x.2.2.2.1 (g10_0 x.2.2.1 (g9_0 x.1 l))))) (by omega) (by omega) hw.2.2.2.2.2.2.2.2.2.1
  by_cases c5 : (g14_0 x.2.2.2.2.2.2.2.2.2.1 (g13_0 x.2.2.2.2.2.2.2.2.1 (g12_0 x.2.2.2.2.2.2.1 (g11_0 x.2.2.2.1 (g10_0 x.2.2.1 (g9_0 x.1 l)))))) < 0
  · simp only [c0, p0, c1, p1, c2, p2, c3, p3, c4, p4, c5, p5, decide_true, decide_false, Bool.false_eq_true, if_true, if_false, and_true, true_and]
    try exact ⟨trivial, fun h => absurd (show (-1 : Int) < 0 by decide) h⟩
    try exact fun h => absurd (show (-1 : Int) < 0 by decide) h
  have r5 := q5 c5
  obtain ⟨p6, q6⟩ := szs_Helper x.2.2.2.2.2.2.2.2.2.2.1 (g14_0 x.2.2.2.2.2.2.2.2.2.1 (g13_0 x.2.2.2.2.2.2.2.2.1 (g12_0 x.2.2.2.2.2.2.1 (g11_0 x.2.2.2.1 (g10_0 x.2.2.1 (g9_0 x.1 l)))))) (by omega) (by omega) hw.2.2.2.2.2.2.2.2.2.2.1
  by_cases c6 : (g15_0 x.2.2.2.2.2.2.2.2.2.2.1 (g14_0 x.2.2.2.2.2.2.2.2.2.1 (g13_0 x.2.2.2.2.2.2.2.2.1 (g12_0 x.2.2.2.2.2.2.1 (g11_0 x.2.2.2.1 (g10_0 x.2.2.1 (g9_0 x.1 l))))))) < 0
  · simp only [c0, p0, c1, p1, c2, p2, c3, p3, c4, p4, c5, p5, c6, p6, decide_true, decide_false, Bool.false_eq_true, if_true, if_false, and_true, true_and]
    try exact ⟨trivial, fun h => absurd (show (-1 : Int) < 0 by decide) h⟩
    try exact fun h => absurd (show (-1 : Int) < 0 by decide) h
  have r6 := q6 c6
  obtain ⟨p7, q7⟩ := szs_Task x.2.2.2.2.2.2.2.2.2.2.2.1 (g15_0 x.2.2.2.2.2.2.2.2.2.2.1 (g14_0 x.2.2.2.2.2.2.2.2.2.1 (g13_0 x.2.2.2.2.2.2.2.2.1 (g12_0 x.2.2.2.2.2.2.1 (g11_0 x.2.2.2.1 (g10_0 x.2.2.1 (g9_0 x.1 l))))))) (by omega) (by omega) hw.2.2.2.2.2.2.2.2.2.2.2.1
  by_cases c7 : (g16_0 x.2.2.2.2.2.2.2.2.2.2.2.1 (g15_0 x.2.2.2.2.2.2.2.2.2.2.1 (g14_0 x.2.2.2.2.2.2.2.2.2.1 (g13_0 x.2.2.2.2.2.2.2.2.1 (g12_0 x.2.2.2.2.2.2.1 (g11_0 x.2.2.2.1 (g10_0 x.2.2.1 (g9_0 x.1 l)))))))) < 0
  · simp only [c0, p0, c1, p1, c2, p2, c3, p3, c4, p4, c5, p5, c6, p6, c7, p7, decide_true, decide_false, Bool.false_eq_true, if_true, if_false, and_true, true_and]
    try exact ⟨trivial, fun h => absurd (show (-1 : Int) < 0 by decide) h⟩
    try exact fun h => absurd (show (-1 : Int) < 0 by decide) h
  have r7 := q7 c7
  simp only [c0, p0, c1, p1, c2, p2, c3, p3, c4, p4, c5, p5, c6, p6, c7, p7, decide_false, Bool.false_eq_true, if_false, and_true, true_and]
  intro _
  omega

theorem to_desk (x : (TyA0)) (h : (x.1.length : Int) ≤ 1048576 ∧ (x.2.2.1.length : Int) ≤ 1048576 ∧ (x.2.2.2.1.length : Int) ≤ 1048576 ∧ (x.2.2.2.2.2.2.1.length : Int) ≤ 1048576 ∧ (x.2.2.2.2.2.2.2.2.1.length : Int) ≤ 1048576 ∧ (x.2.2.2.2.2.2.2.2.2.1.length : Int) ≤ 1048576 ∧ (x.2.2.2.2.2.2.2.2.2.2.1.length : Int) ≤ 1048576 ∧ (x.2.2.2.2.2.2.2.2.2.2.2.1.length : Int) ≤ 1048576) : P6 x ∧ g6_0 x = x := by
  obtain ⟨l0, l1, l2, l3, l4, l5, l6, l7⟩ := h
  refine ⟨?_, rfl⟩
  unfold P6 P18 P20 P21 P24 P26 P27 P28 P29
  refine ⟨by omega, by omega, by omega, by omega, by omega, by omega, by omega, by omega, trivial⟩

theorem eq_desk (x : (TyA0)) : g8_0 x x = true := by
  simp [g8_0, g42_0, g44_0, g45_0, g48_0, g50_0, g51_0, g52_0, g53_0, g43_0, g46_0, g47_0, g49_0]

end Go.Proofs.YtcakiedjgnhjcaaGreat

/- A law that says how functions of the program and of the specification hang together. -/
set_option linter.unusedVariables false
set_option linter.unusedSimpArgs false
set_option maxRecDepth 100000
namespace Go.Proofs.YtcakiedjgnhjcaaGreat
open Go Go.Am Go.Proofs
theorem name_eq (s : ByteArray) : g111_0 s = g121_0 s := by
  have hs : ∀ c, g128_0 c = (decide (97 ≤ c) && decide (c ≤ 122)) := fun c => by
    unfold g128_0
    by_cases h1 : (97 : Int) ≤ c <;> simp [h1]
  have hd : ∀ c, g129_0 c = (decide (48 ≤ c) && decide (c ≤ 57)) := fun c => by
    unfold g129_0
    by_cases h1 : (48 : Int) ≤ c <;> simp [h1]
  unfold g111_0 g121_0
  have hl := bytesOf_length s
  by_cases h1 : 1 ≤ s.size
  · cases hb : bytesOf s with
    | nil => rw [hb] at hl; simp at hl; omega
    | cons c r =>
      have hr : allI ok111 1 r = r.all fun b => g128_0 b || g129_0 b := by
        rw [← allI_plain (fun b => g128_0 b || g129_0 b) r 1]
        refine allI_congr r 1 fun j x hj => ?_
        have : (j == 0) = false := by simp; omega
        simp only [ok111, this, hs, hd, Bool.not_false, Bool.true_and]
      have h0 : ok111 0 c = g128_0 c := by simp [ok111, hs]
      simp only [allI, hr, h0, List.all_cons, List.getD_cons_zero]
      cases g128_0 c <;> simp
  · simp [h1]


end Go.Proofs.YtcakiedjgnhjcaaGreat

/- A law that says how functions of the program and of the specification hang together. -/
set_option linter.unusedVariables false
set_option linter.unusedSimpArgs false
set_option maxRecDepth 100000
namespace Go.Proofs.YtcakiedjgnhjcaaGreat
open Go Go.Am Go.Proofs

theorem bl_asym {x y : List UInt8} (h : Op.bytesLess x y = true) : Op.bytesLess y x = false := by
  cases h2 : Op.bytesLess y x with
  | false => rfl
  | true =>
    have := bl_trans x y x h h2
    rw [bl_irrefl] at this
    cases this

theorem le_not (a b : ByteArray) : (!(Op.bytesLess (ByteArray.toList a) (ByteArray.toList b) || ByteArray.toList a == ByteArray.toList b)) = Op.bytesLess (ByteArray.toList b) (ByteArray.toList a) := by
  generalize ByteArray.toList a = x
  generalize ByteArray.toList b = y
  cases h1 : Op.bytesLess x y with
  | true => rw [bl_asym h1]; rfl
  | false =>
    cases h2 : (x == y) with
    | true =>
      have : x = y := by simpa using h2
      subst this
      rw [bl_irrefl]; rfl
    | false =>
      cases h3 : Op.bytesLess y x with
      | true => rfl
      | false =>
        have := bl_tri x y h1 h3
        subst this
        simp at h2

end Go.Proofs.YtcakiedjgnhjcaaGreat

/- A law that says how functions of the program and of the specification hang together. -/
set_option linter.unusedVariables false
set_option linter.unusedSimpArgs false
set_option maxRecDepth 100000
namespace Go.Proofs.YtcakiedjgnhjcaaGreat
open Go Go.Am Go.Proofs

theorem one_Bend (x : TyB0) : g79_0 x = g102_0 x := by
  unfold g79_0 g102_0
  rw [name_eq]
  rfl

theorem list_Bend (xs : List TyB0) : g30_0 xs = g59_0 xs := by
  unfold g30_0 g59_0
  congr 1
  refine allI_congr xs 0 fun j y _ => ?_
  unfold ok30 ok59
  rw [one_Bend, le_not]

end Go.Proofs.YtcakiedjgnhjcaaGreat

/- A law that says how functions of the program and of the specification hang together. -/
set_option linter.unusedVariables false
set_option linter.unusedSimpArgs false
set_option maxRecDepth 100000
namespace Go.Proofs.YtcakiedjgnhjcaaGreat
open Go Go.Am Go.Proofs

theorem one_Fare (x : TyB0) : g90_0 x = g107_0 x := by
  unfold g90_0 g107_0
  rw [name_eq]
  rfl

theorem list_Fare (xs : List TyB0) : g38_0 xs = g67_0 xs := by
  unfold g38_0 g67_0
  congr 1
  refine allI_congr xs 0 fun j y _ => ?_
  unfold ok38 ok67
  rw [one_Fare, le_not]

end Go.Proofs.YtcakiedjgnhjcaaGreat

/- A law that says how functions of the program and of the specification hang together. -/
set_option linter.unusedVariables false
set_option linter.unusedSimpArgs false
set_option maxRecDepth 100000
namespace Go.Proofs.YtcakiedjgnhjcaaGreat
open Go Go.Am Go.Proofs

theorem one_Worker (x : TyB1) : g88_0 x = g106_0 x := by
  unfold g88_0 g106_0
  rw [name_eq]
  rfl

theorem list_Worker (xs : List TyB1) : g36_0 xs = g65_0 xs := by
  unfold g36_0 g65_0
  congr 1
  refine allI_congr xs 0 fun j y _ => ?_
  unfold ok36 ok65
  rw [one_Worker, le_not]

end Go.Proofs.YtcakiedjgnhjcaaGreat

/- A law that says how functions of the program and of the specification hang together. -/
set_option linter.unusedVariables false
set_option linter.unusedSimpArgs false
set_option maxRecDepth 100000
namespace Go.Proofs.YtcakiedjgnhjcaaGreat
open Go Go.Am Go.Proofs

theorem one_Helper (x : TyB1) : g92_0 x = g109_0 x := by
  unfold g92_0 g109_0
  rw [name_eq]
  rfl

theorem list_Helper (xs : List TyB1) : g40_0 xs = g69_0 xs := by
  unfold g40_0 g69_0
  congr 1
  refine allI_congr xs 0 fun j y _ => ?_
  unfold ok40 ok69
  rw [one_Helper, le_not]

end Go.Proofs.YtcakiedjgnhjcaaGreat

/- A law that says how functions of the program and of the specification hang together. -/
set_option linter.unusedVariables false
set_option linter.unusedSimpArgs false
set_option maxRecDepth 100000
namespace Go.Proofs.YtcakiedjgnhjcaaGreat
open Go Go.Am Go.Proofs

theorem one_Task (x : TyB1) : g93_0 x = g110_0 x := by
  unfold g93_0 g110_0
  rw [name_eq]
  rfl

theorem list_Task (xs : List TyB1) : g41_0 xs = g70_0 xs := by
  unfold g41_0 g70_0
  congr 1
  refine allI_congr xs 0 fun j y _ => ?_
  unfold ok41 ok70
  rw [one_Task, le_not]

end Go.Proofs.YtcakiedjgnhjcaaGreat

/- A law that says how functions of the program and of the specification hang together. -/
set_option linter.unusedVariables false
set_option linter.unusedSimpArgs false
set_option maxRecDepth 100000
namespace Go.Proofs.YtcakiedjgnhjcaaGreat
open Go Go.Am Go.Proofs

end Go.Proofs.YtcakiedjgnhjcaaGreat

/- A law that says how functions of the program and of the specification hang together. -/
set_option linter.unusedVariables false
set_option linter.unusedSimpArgs false
set_option maxRecDepth 100000
namespace Go.Proofs.YtcakiedjgnhjcaaGreat
open Go Go.Am Go.Proofs

theorem one_Test (x : Int × Int × Int × Unit) : g118_0 x = g124_0 x := by
  unfold g118_0 g124_0
  rfl

theorem order_Test (xs : List TyB2) : g91_0 xs = g108_0 xs := by
  unfold g91_0 g108_0
  refine allI_congr xs 0 fun j y _ => ?_
  unfold ok91 ok108
  rw [one_Test]
  rfl

theorem list_Test (xs : List TyB2) : g39_0 xs = g68_0 xs := by
  unfold g39_0 g68_0
  rw [order_Test]
  cases g108_0 xs <;> cases decide ((xs.length : Int) ≤ 24) <;> rfl

end Go.Proofs.YtcakiedjgnhjcaaGreat

/- A law that says how functions of the program and of the specification hang together. -/
set_option linter.unusedVariables false
set_option linter.unusedSimpArgs false
set_option maxRecDepth 100000
namespace Go.Proofs.YtcakiedjgnhjcaaGreat
open Go Go.Am Go.Proofs
theorem one_Hour (x : Int × Int × Int × Unit) : g83_0 x = g104_0 x := by
  unfold g83_0 g104_0
  rfl

theorem list_Hour (xs : List TyB2) : g32_0 xs = g61_0 xs := by
  unfold g32_0 g61_0 g81c82_0
  rw [any113c82]
  have hq : (!xs.any g82_0) = xs.all g104_0 := by
    rw [List.not_any_eq_all_not]
    congr 1
    funext b
    simp only [g82_0, one_Hour, Bool.not_not]
  rw [hq]
  by_cases h : ((xs.length : Nat) : Int) ≤ 48
  · have h' : xs.length ≤ 48 := by omega
    simp [h, h']
  · have h' : ¬ xs.length ≤ 48 := by omega
    simp [h, h']

end Go.Proofs.YtcakiedjgnhjcaaGreat

/- A law that says how functions of the program and of the specification hang together. -/
set_option linter.unusedVariables false
set_option linter.unusedSimpArgs false
set_option maxRecDepth 100000
namespace Go.Proofs.YtcakiedjgnhjcaaGreat
open Go Go.Am Go.Proofs
theorem one_Limit (x : Int × Int × Int × Unit) : g86_0 x = lim62 x := by
  unfold g86_0 lim62
  have e1 : g115_0 x.1 = g103_0 x.1 1 4 := rfl
  have e2 : g80_0 x.2.1 0 1000 = g103_0 x.2.1 0 1000 := rfl
  have e3 : g116_0 x.2.2.1 = g105_0 x.2.2.1 := rfl
  rw [e1, e2, e3]
  cases g103_0 x.1 1 4 <;> cases g103_0 x.2.1 0 1000 <;> cases g105_0 x.2.2.1 <;> rfl

theorem list_Limit (xs : List TyB2) : g33_0 xs = g62_0 xs := by
  unfold g33_0 g62_0 g84c85_0
  rw [any114c85]
  have hq : (!xs.any g85_0) = xs.all lim62 := by
    rw [List.not_any_eq_all_not]
    congr 1
    funext b
    simp only [g85_0, one_Limit, Bool.not_not]
  rw [hq]
  by_cases h : ((xs.length : Nat) : Int) ≤ 8
  · have h' : xs.length ≤ 8 := by omega
    simp [h, h']
  · have h' : ¬ xs.length ≤ 8 := by omega
    simp [h, h']

end Go.Proofs.YtcakiedjgnhjcaaGreat

/- A law that says how functions of the program and of the specification hang together. -/
set_option linter.unusedVariables false
set_option linter.unusedSimpArgs false
set_option maxRecDepth 100000
namespace Go.Proofs.YtcakiedjgnhjcaaGreat
open Go Go.Am Go.Proofs

theorem rope_eq (x : Int × Int × Int × Int × Unit) : g31_0 x = g60_0 x := rfl
theorem motor_eq (x : Int × Int × Int × Unit) : g34_0 x = g63_0 x := rfl
theorem basin_eq (x : Int × Int × Int × Int × Unit) : g37_0 x = g66_0 x := rfl

theorem in_iff {x a b : Int} : g80_0 x a b = decide (a ≤ x ∧ x ≤ b) := by
  unfold g80_0
  by_cases c1 : x ≥ a
  · by_cases c2 : x ≤ b
    · have : a ≤ x ∧ x ≤ b := ⟨c1, c2⟩
      simp [c1, c2, this]
    · have : ¬ (a ≤ x ∧ x ≤ b) := fun h => c2 h.2
      simp [c1, c2]
  · have : ¬ (a ≤ x ∧ x ≤ b) := fun h => c1 h.1
    simp [c1, this]
theorem in_same (x a b : Int) : g103_0 x a b = g80_0 x a b := rfl

theorem door_eq (x : Int × Int × Int × Unit) : g35_0 x = g64_0 x := by
  unfold g35_0 g64_0 g87_0
  simp only [in_same, in_iff]
  obtain ⟨p, t, r, u⟩ := x
  simp only
  by_cases h0 : p = 0
  · subst h0; simp
  by_cases h1 : p = 1
  · subst h1; simp
  by_cases h2 : p = 2
  · subst h2; simp
  by_cases h3 : p = 3
  · subst h3; simp
  have : ¬ (0 ≤ p ∧ p ≤ 3) := by omega
  simp [h0, h1, h2, h3, this]

theorem valid_desk (x : (TyA0)) : g7_0 x = g17_0 x := by
  unfold g7_0 g17_0
  rw [list_Bend, list_Fare, list_Worker, list_Helper, list_Task, list_Test, list_Hour, list_Limit, rope_eq, motor_eq, basin_eq, door_eq]
  cases g63_0 x.2.2.2.2.1 <;> simp

theorem pre_desk (x : (TyA0)) : P7 x = True ∧ P5 x = True := by
  refine ⟨?_, ?_⟩ <;> exact eq_true (by trivial)

end Go.Proofs.YtcakiedjgnhjcaaGreat

/- The plain law of FnExactValidDesk. -/
set_option linter.unusedVariables false
set_option linter.unusedSimpArgs false
set_option maxRecDepth 100000
namespace Go.Proofs.YtcakiedjgnhjcaaGreat
open Go Go.Am Go.Proofs

theorem law3 (x : (TyA0)) (hx : Wf (.cons (.sl (.cons .str (.cons (.int .i64) (.cons (.int .i64) (.cons (.int .i64) .unit))))) (.cons (.cons (.int .i64) (.cons (.int .i64) (.cons (.int .i64) (.cons (.int .i64) .unit)))) (.cons (.sl (.cons (.int .i64) (.cons (.int .i64) (.cons (.int .i64) .unit)))) (.cons (.sl (.cons (.int .i64) (.cons (.int .i64) (.cons (.int .i64) .unit)))) (.cons (.cons (.int .i64) (.cons (.int .i64) (.cons (.int .i64) .unit))) (.cons (.cons (.int .i64) (.cons (.int .i64) (.cons (.int .i64) .unit))) (.cons (.sl (.cons .str (.cons (.int .i64) (.cons (.int .i64) .unit)))) (.cons (.cons (.int .i64) (.cons (.int .i64) (.cons (.int .i64) (.cons (.int .i64) .unit)))) (.cons (.sl (.cons .str (.cons (.int .i64) (.cons (.int .i64) (.cons (.int .i64) .unit))))) (.cons (.sl (.cons (.int .i64) (.cons (.int .i64) (.cons (.int .i64) .unit)))) (.cons (.sl (.cons .str (.cons (.int .i64) (.cons (.int .i64) .unit)))) (.cons (.sl (.cons .str (.cons (.int .i64) (.cons (.int .i64) .unit)))) .unit)))))))))))) x) : P3 x ∧ g3_0 x = true := by
  obtain ⟨p1, q1⟩ := sz_desk x 1048576 (by decide) (by decide) hx
  by_cases c1 : g4_0 x 1048576 < 0
  · unfold P3 g3_0
    simp only [c1, p1, decide_true, if_true, and_self]
  obtain ⟨r1, s1, t1⟩ := q1 c1
  obtain ⟨a1, e1⟩ := to_desk x (by omega)
  have f1 := eq_desk x
  have k := valid_desk x
  have k2 : g5_0 x = g17_0 x := rfl
  have p2 := pre_desk x
  unfold P3 g3_0
  clear q1 hx r1 s1 t1
  simp only [e1, c1, p1, a1, f1, k, k2, p2, decide_false, Bool.false_eq_true, if_false, true_and, and_true, Bool.not_true, bne_self_eq_false]
  cases g17_0 x <;> simp

end Go.Proofs.YtcakiedjgnhjcaaGreat
