/- Several texts in one: the functions that this law reaches, and their laws. -/
import Derived.Test.YtpcfcplggpchjaaZ3A
import Derived.Test.YtpcfcplggpchjaaZ3B
import Derived.Test.YtpcfcplggpchjaaZ3C
import Derived.Test.YtpcfcplggpchjaaZ3D
import Derived.Test.YtpcfcplggpchjaaZ3E

/- Function 48 (laws.eqHelperS): its runs between cut points. Written by a program of this repo (gen). -/
set_option linter.unusedVariables false
set_option linter.unusedSimpArgs false
set_option maxRecDepth 100000
namespace Go.Proofs.Ytpcfcplggpchjaa
open Go Go.Am Go.Proofs
def ext48 : Ext := [(69, S69)]
theorem call48_69 : Callable Try.prog 69 := ⟨Try.f69, Try.func69, by kernel_rfl, by kernel_rfl⟩
theorem ext48Ok : ExtOk Try.prog ext48 := ⟨⟨call48_69, con69⟩, trivial⟩

noncomputable def b48 : Code := bodyOf Try.f48
theorem hb48 : Try.f48.body = some b48 := by kernel_rfl
def sig48 : List AT := [AT.v (Ty.sl (Ty.cons Ty.str (Ty.cons (Ty.int IntKind.i64) (Ty.cons (Ty.int IntKind.i64) Ty.unit)))), AT.v (Ty.sl (Ty.cons Ty.str (Ty.cons (Ty.int IntKind.i64) (Ty.cons (Ty.int IntKind.i64) Ty.unit))))]
def tys48 : List Ty := [Ty.bool]
def kds48 : List RK := []
def oks48 : List AT := owns sig48
def E48_4 (v5 : Int) (x0 : List (ByteArray × Int × Int × Unit)) (x1 : List (ByteArray × Int × Int × Unit)) : Env := [(0, PV.a (Atom.sl (Ty.cons Ty.str (Ty.cons (Ty.int IntKind.i64) (Ty.cons (Ty.int IntKind.i64) Ty.unit))) x0)), (1, PV.a (Atom.sl (Ty.cons Ty.str (Ty.cons (Ty.int IntKind.i64) (Ty.cons (Ty.int IntKind.i64) Ty.unit))) x1)), (5, PV.a (Atom.val (Value.int IntKind.i64 v5)))]
def L48_4 (v5 : Int) (x0 : List (ByteArray × Int × Int × Unit)) (x1 : List (ByteArray × Int × Int × Unit)) : Heap := []
mutual
def R48 : Nat → List (ByteArray × Int × Int × Unit) → List (ByteArray × Int × Int × Unit) → List Dyn → Prop
  | 0, _, _, _ => False
  | n + 1, x0, x1, ds => (if ((↑(List.length x0) : Int) != (↑(List.length x1) : Int)) = true then (ds = [Dyn.mk Ty.bool Bool.false]) else (R48_4 n (0) (x0) (x1) ds))
def R48_4 : Nat → Int → List (ByteArray × Int × Int × Unit) → List (ByteArray × Int × Int × Unit) → List Dyn → Prop
  | 0, _, _, _, _ => False
  | n + 1, v5, x0, x1, ds => (if (Decidable.decide (v5 < (↑(List.length x0) : Int))) = true then ((0 ≤ v5) ∧ (v5 < (↑(List.length x0) : Int)) ∧ ((0 ≤ v5) ∧ (v5 < (↑(List.length x1) : Int)) ∧ (if (!g69_0 (List.getD x0 (Int.toNat v5) (ByteArray.empty, 0, 0, ())) (List.getD x1 (Int.toNat v5) (ByteArray.empty, 0, 0, ()))) = true then (ds = [Dyn.mk Ty.bool Bool.false]) else ((InR IntKind.i64 (v5 + 1)) ∧ (R48_4 n (v5 + 1) (x0) (x1) ds))))) else (ds = [Dyn.mk Ty.bool Bool.true]))
end
theorem p48_0 (x0 : List (ByteArray × Int × Int × Unit)) (x1 : List (ByteArray × Int × Int × Unit)) : runF tab ext48 false 27 [] 2000 [] oks48 kds48 tys48 Try.f48.results [true] [.code b48] (entE 0 0 sig48 (x0, x1, ())) (entL sig48 (x0, x1, ())) = some ([Dyn.mk Ty.bool Bool.false], [], [((↑(List.length x0) : Int) != (↑(List.length x1) : Int)) = Bool.true]) := by kernel_rfl
theorem p48_1 (x0 : List (ByteArray × Int × Int × Unit)) (x1 : List (ByteArray × Int × Int × Unit)) : Am.runN tab ext48 false 27 [] 2000 [] [] [0, 1, 5] [] [false] [.code b48] (entE 0 0 sig48 (x0, x1, ())) (entL sig48 (x0, x1, ())) = some (cutAt b48 4, E48_4 (0) (x0) (x1), L48_4 (0) (x0) (x1), [((↑(List.length x0) : Int) != (↑(List.length x1) : Int)) = Bool.false]) := by kernel_rfl
theorem p48_2 (v5 : Int) (x0 : List (ByteArray × Int × Int × Unit)) (x1 : List (ByteArray × Int × Int × Unit)) : runF tab ext48 false 27 [] 2000 [] oks48 kds48 tys48 Try.f48.results [true, true] (cutAt b48 4) (E48_4 v5 x0 x1) (L48_4 v5 x0 x1) = some ([Dyn.mk Ty.bool Bool.false], [], [Decidable.decide (v5 < (↑(List.length x0) : Int)) = Bool.true, 0 ≤ v5, v5 < (↑(List.length x0) : Int), 0 ≤ v5, v5 < (↑(List.length x1) : Int), True, (!g69_0 (List.getD x0 (Int.toNat v5) (ByteArray.empty, 0, 0, ())) (List.getD x1 (Int.toNat v5) (ByteArray.empty, 0, 0, ()))) = Bool.true]) := by kernel_rfl
theorem p48_3 (v5 : Int) (x0 : List (ByteArray × Int × Int × Unit)) (x1 : List (ByteArray × Int × Int × Unit)) : Am.runN tab ext48 false 27 [] 2000 [] [] [0, 1, 5] [] [true, false] (cutAt b48 4) (E48_4 v5 x0 x1) (L48_4 v5 x0 x1) = some (cutAt b48 4, E48_4 (v5 + 1) (x0) (x1), L48_4 (v5 + 1) (x0) (x1), [Decidable.decide (v5 < (↑(List.length x0) : Int)) = Bool.true, 0 ≤ v5, v5 < (↑(List.length x0) : Int), 0 ≤ v5, v5 < (↑(List.length x1) : Int), True, (!g69_0 (List.getD x0 (Int.toNat v5) (ByteArray.empty, 0, 0, ())) (List.getD x1 (Int.toNat v5) (ByteArray.empty, 0, 0, ()))) = Bool.false, InR IntKind.i64 (v5 + 1)]) := by kernel_rfl
theorem p48_4 (v5 : Int) (x0 : List (ByteArray × Int × Int × Unit)) (x1 : List (ByteArray × Int × Int × Unit)) : runF tab ext48 false 27 [] 2000 [] oks48 kds48 tys48 Try.f48.results [false] (cutAt b48 4) (E48_4 v5 x0 x1) (L48_4 v5 x0 x1) = some ([Dyn.mk Ty.bool Bool.true], [], [Decidable.decide (v5 < (↑(List.length x0) : Int)) = Bool.false]) := by kernel_rfl
theorem snd48 : ∀ n, (∀ (x0 : List (ByteArray × Int × Int × Unit)) (x1 : List (ByteArray × Int × Int × Unit)) ds, R48 n x0 x1 ds → ∀ K q, AtV Try.prog 48 (PostR kds48 oks48 ds [] [] q K) 27 K q [] [.code b48] (entE 0 0 sig48 (x0, x1, ())) (entL sig48 (x0, x1, ()))) ∧ (∀ (v5 : Int) (x0 : List (ByteArray × Int × Int × Unit)) (x1 : List (ByteArray × Int × Int × Unit)) ds, R48_4 n v5 x0 x1 ds → ∀ K q, AtV Try.prog 48 (PostR kds48 oks48 ds [] [] q K) 27 K q [] (cutAt b48 4) (E48_4 v5 x0 x1) (L48_4 v5 x0 x1)) := by
  intro n
  induction n with
  | zero => exact ⟨fun _ _ _ h => by simp only [R48] at h, fun _ _ _ _ h => by simp only [R48_4] at h⟩
  | succ n ih =>
  obtain ⟨ih, ih4⟩ := ih
  refine ⟨?_, ?_⟩
  · intro x0 x1 ds h K q
    rw [R48] at h
    by_cases b0 : ((↑(List.length x0) : Int) != (↑(List.length x1) : Int)) = true
    · rw [if_pos b0] at h
      subst h
      exact AtV.fin Try.func48 tabOk ext48Ok mixed (p48_0 x0 x1) ⟨b0, trivial⟩
    · rw [if_neg b0] at h
      replace b0 := Bool.eq_false_iff.2 b0
      exact AtV.runN tabOk ext48Ok mixed (p48_1 x0 x1) ⟨b0, trivial⟩ (ih4 _ _ _ _ h K q)

  · intro v5 x0 x1 ds h K q
    rw [R48_4] at h
    by_cases b0 : (Decidable.decide (v5 < (↑(List.length x0) : Int))) = true
    · rw [if_pos b0] at h
      obtain ⟨s0, s1, h⟩ := h
      obtain ⟨s2, s3, h⟩ := h
      by_cases b1 : (!g69_0 (List.getD x0 (Int.toNat v5) (ByteArray.empty, 0, 0, ())) (List.getD x1 (Int.toNat v5) (ByteArray.empty, 0, 0, ()))) = true
      · rw [if_pos b1] at h
        subst h
        exact AtV.fin Try.func48 tabOk ext48Ok mixed (p48_2 v5 x0 x1) ⟨b0, s0, s1, s2, s3, trivial, b1, trivial⟩
      · rw [if_neg b1] at h
        replace b1 := Bool.eq_false_iff.2 b1
        obtain ⟨s4, h⟩ := h
        exact AtV.runN tabOk ext48Ok mixed (p48_3 v5 x0 x1) ⟨b0, s0, s1, s2, s3, trivial, b1, s4, trivial⟩ (ih4 _ _ _ _ h K q)
    · rw [if_neg b0] at h
      replace b0 := Bool.eq_false_iff.2 b0
      subst h
      exact AtV.fin Try.func48 tabOk ext48Ok mixed (p48_4 v5 x0 x1) ⟨b0, trivial⟩



theorem eq48 (x0 x1 : List (ByteArray × Int × Int × Unit)) (hl : x0.length = x1.length) (hm : x0.length ≤ maxLen) : ∀ k i : Nat, i + k = x0.length → R48_4 (k + 1) (i : Int) x0 x1 [⟨.bool, decide (x0.drop i = x1.drop i)⟩] := by
  intro k
  induction k with
  | zero =>
    intro i hi
    have h1 : ¬ (i : Int) < (x0.length : Int) := by omega
    rw [R48_4, if_neg (by simpa using h1), drop_end x0 i (by omega), drop_end x1 i (by omega)]
    simp
  | succ k ih =>
    intro i hi
    have h1 : (i : Int) < (x0.length : Int) := by omega
    rw [R48_4, if_pos (by simpa using h1)]
    refine ⟨by omega, h1, by omega, by omega, ?_⟩
    simp only [Int.toNat_natCast]
    rw [drop_get x0 i (ByteArray.empty, (0 : Int), (0 : Int), ()) (by omega), drop_get x1 i (ByteArray.empty, (0 : Int), (0 : Int), ()) (by omega)]
    by_cases he : x0.getD i (ByteArray.empty, (0 : Int), (0 : Int), ()) = x1.getD i (ByteArray.empty, (0 : Int), (0 : Int), ())
    · have hd := (eqd69 _ _).2 he
      rw [if_neg (by rw [hd]; simp)]
      refine ⟨inR_up hm (by omega), ?_⟩
      have := ih (i + 1) (by omega)
      simp only [he, List.cons.injEq, true_and]
      exact this
    · have hd : g69_0 (x0.getD i (ByteArray.empty, (0 : Int), (0 : Int), ())) (x1.getD i (ByteArray.empty, (0 : Int), (0 : Int), ())) = false :=
        Bool.eq_false_iff.2 fun h => he ((eqd69 _ _).1 h)
      rw [if_pos (by rw [hd]; rfl)]
      simp only [he, List.cons.injEq, false_and, decide_false]

def g48_0 (x0 x1 : List (ByteArray × Int × Int × Unit)) : Bool := decide (x0 = x1)
def P48 (x0 x1 : List (ByteArray × Int × Int × Unit)) : Prop := True
def S48 : Am.Spec := { sig := sig48, pre := fun ⟨x0, x1, _⟩ => P48 x0 x1, res := fun ⟨x0, x1, _⟩ => [⟨Ty.bool, g48_0 x0 x1⟩] }
theorem con48 : Contract Try.prog 48 S48 := contract_of Try.func48 hb48 (Nat.le_of_ble_eq_true (by kernel_rfl)) (fun ⟨x0, x1, _⟩ h hwf K q => by
  refine (snd48 (x0.length + 2)).1 x0 x1 _ ?_ K q
  show R48 (x0.length + 1 + 1) x0 x1 [⟨Ty.bool, decide (x0 = x1)⟩]
  rw [R48]
  by_cases hl : x0.length = x1.length
  · rw [if_neg (by simp [hl])]
    have := eq48 x0 x1 hl hwf.1.1 x0.length 0 (by omega)
    simpa using this
  · rw [if_pos (by simp; omega)]
    have : x0 ≠ x1 := fun h => hl (by rw [h])
    simp [this])

end Go.Proofs.Ytpcfcplggpchjaa

/- Function 70 (laws.eqTask): its runs between cut points. Written by a program of this repo (gen). -/
set_option linter.unusedVariables false
set_option linter.unusedSimpArgs false
set_option maxRecDepth 100000
namespace Go.Proofs.Ytpcfcplggpchjaa
open Go Go.Am Go.Proofs
def ext70 : Ext := []
theorem ext70Ok : ExtOk Try.prog ext70 := trivial

noncomputable def b70 : Code := bodyOf Try.f70
theorem hb70 : Try.f70.body = some b70 := by kernel_rfl
def sig70 : List AT := [AT.v (Ty.cons Ty.str (Ty.cons (Ty.int IntKind.i64) (Ty.cons (Ty.int IntKind.i64) Ty.unit))), AT.v (Ty.cons Ty.str (Ty.cons (Ty.int IntKind.i64) (Ty.cons (Ty.int IntKind.i64) Ty.unit)))]
def tys70 : List Ty := [Ty.bool]
def kds70 : List RK := []
def oks70 : List AT := owns sig70
def P70 (x0 : ByteArray × Int × Int × Unit) (x1 : ByteArray × Int × Int × Unit) : Prop := True
def g70_0 (x0 : ByteArray × Int × Int × Unit) (x1 : ByteArray × Int × Int × Unit) : Bool := (if (!ByteArray.toList (Prod.fst x0) == ByteArray.toList (Prod.fst x1)) = true then Bool.false else (if (Prod.fst (Prod.snd x0) != Prod.fst (Prod.snd x1)) = true then Bool.false else (if (Prod.fst (Prod.snd (Prod.snd x0)) != Prod.fst (Prod.snd (Prod.snd x1))) = true then Bool.false else Bool.true)))
theorem p70_0 (x0 : ByteArray × Int × Int × Unit) (x1 : ByteArray × Int × Int × Unit) : runF tab ext70 false 20 [] 2000 [] oks70 kds70 tys70 Try.f70.results [true] [.code b70] (entE 0 0 sig70 (x0, x1, ())) (entL sig70 (x0, x1, ())) = some ([Dyn.mk Ty.bool Bool.false], [], [(!ByteArray.toList (Prod.fst x0) == ByteArray.toList (Prod.fst x1)) = Bool.true]) := by kernel_rfl
theorem p70_1 (x0 : ByteArray × Int × Int × Unit) (x1 : ByteArray × Int × Int × Unit) : runF tab ext70 false 20 [] 2000 [] oks70 kds70 tys70 Try.f70.results [false, true] [.code b70] (entE 0 0 sig70 (x0, x1, ())) (entL sig70 (x0, x1, ())) = some ([Dyn.mk Ty.bool Bool.false], [], [(!ByteArray.toList (Prod.fst x0) == ByteArray.toList (Prod.fst x1)) = Bool.false, (Prod.fst (Prod.snd x0) != Prod.fst (Prod.snd x1)) = Bool.true]) := by kernel_rfl
theorem p70_2 (x0 : ByteArray × Int × Int × Unit) (x1 : ByteArray × Int × Int × Unit) : runF tab ext70 false 20 [] 2000 [] oks70 kds70 tys70 Try.f70.results [false, false, true] [.code b70] (entE 0 0 sig70 (x0, x1, ())) (entL sig70 (x0, x1, ())) = some ([Dyn.mk Ty.bool Bool.false], [], [(!ByteArray.toList (Prod.fst x0) == ByteArray.toList (Prod.fst x1)) = Bool.false, (Prod.fst (Prod.snd x0) != Prod.fst (Prod.snd x1)) = Bool.false, (Prod.fst (Prod.snd (Prod.snd x0)) != Prod.fst (Prod.snd (Prod.snd x1))) = Bool.true]) := by kernel_rfl
theorem p70_3 (x0 : ByteArray × Int × Int × Unit) (x1 : ByteArray × Int × Int × Unit) : runF tab ext70 false 20 [] 2000 [] oks70 kds70 tys70 Try.f70.results [false, false, false] [.code b70] (entE 0 0 sig70 (x0, x1, ())) (entL sig70 (x0, x1, ())) = some ([Dyn.mk Ty.bool Bool.true], [], [(!ByteArray.toList (Prod.fst x0) == ByteArray.toList (Prod.fst x1)) = Bool.false, (Prod.fst (Prod.snd x0) != Prod.fst (Prod.snd x1)) = Bool.false, (Prod.fst (Prod.snd (Prod.snd x0)) != Prod.fst (Prod.snd (Prod.snd x1))) = Bool.false]) := by kernel_rfl
theorem at70 (x0 : ByteArray × Int × Int × Unit) (x1 : ByteArray × Int × Int × Unit) (h : P70 x0 x1) (K : Ctx) (q : Nat → Value) : AtV Try.prog 70 (PostR kds70 oks70 [⟨Ty.bool, g70_0 x0 x1⟩] [] [] q K) 20 K q [] [.code b70] (entE 0 0 sig70 (x0, x1, ())) (entL sig70 (x0, x1, ())) := by
  unfold P70 at h
  unfold g70_0
  by_cases b0 : (!ByteArray.toList (Prod.fst x0) == ByteArray.toList (Prod.fst x1)) = true
  · try simp only [if_pos b0] at h ⊢
    exact AtV.fin Try.func70 tabOk ext70Ok mixed (p70_0 x0 x1) ⟨b0, trivial⟩
  · try simp only [if_neg b0] at h ⊢
    replace b0 := Bool.eq_false_iff.2 b0
    by_cases b1 : (Prod.fst (Prod.snd x0) != Prod.fst (Prod.snd x1)) = true
    · try simp only [if_pos b1] at h ⊢
      exact AtV.fin Try.func70 tabOk ext70Ok mixed (p70_1 x0 x1) ⟨b0, b1, trivial⟩
    · try simp only [if_neg b1] at h ⊢
      replace b1 := Bool.eq_false_iff.2 b1
      by_cases b2 : (Prod.fst (Prod.snd (Prod.snd x0)) != Prod.fst (Prod.snd (Prod.snd x1))) = true
      · try simp only [if_pos b2] at h ⊢
        exact AtV.fin Try.func70 tabOk ext70Ok mixed (p70_2 x0 x1) ⟨b0, b1, b2, trivial⟩
      · try simp only [if_neg b2] at h ⊢
        replace b2 := Bool.eq_false_iff.2 b2
        exact AtV.fin Try.func70 tabOk ext70Ok mixed (p70_3 x0 x1) ⟨b0, b1, b2, trivial⟩

def S70 : Am.Spec := { sig := sig70, pre := fun ⟨x0, x1, _⟩ => P70 x0 x1, res := fun ⟨x0, x1, _⟩ => [⟨Ty.bool, g70_0 x0 x1⟩], kds := kds70 }
theorem con70 : Contract Try.prog 70 S70 := contract_of Try.func70 hb70 (Nat.le_of_ble_eq_true (by kernel_rfl)) (fun ⟨x0, x1, _⟩ h _ K q => at70 x0 x1 h K q)


theorem eqd70 (x y : (ByteArray × Int × Int × Unit)) : g70_0 x y = true ↔ x = y := by
  obtain ⟨a, b, c, u⟩ := x
  obtain ⟨a', b', c', u'⟩ := y
  unfold g70_0
  simp only [Bool.not_eq_true', bytes_ne, bne_iff_ne, ne_eq, ite_not]
  by_cases h0 : a = a'
  · by_cases h1 : b = b'
    · by_cases h2 : c = c'
      · simp [h0, h1, h2]
      · simp [h0, h1, h2]
    · simp [h0, h1]
  · simp [h0]

end Go.Proofs.Ytpcfcplggpchjaa

/- Function 49 (laws.eqTaskS): its runs between cut points. Written by a program of this repo (gen). -/
set_option linter.unusedVariables false
set_option linter.unusedSimpArgs false
set_option maxRecDepth 100000
namespace Go.Proofs.Ytpcfcplggpchjaa
open Go Go.Am Go.Proofs
def ext49 : Ext := [(70, S70)]
theorem call49_70 : Callable Try.prog 70 := ⟨Try.f70, Try.func70, by kernel_rfl, by kernel_rfl⟩
theorem ext49Ok : ExtOk Try.prog ext49 := ⟨⟨call49_70, con70⟩, trivial⟩

noncomputable def b49 : Code := bodyOf Try.f49
theorem hb49 : Try.f49.body = some b49 := by kernel_rfl
def sig49 : List AT := [AT.v (Ty.sl (Ty.cons Ty.str (Ty.cons (Ty.int IntKind.i64) (Ty.cons (Ty.int IntKind.i64) Ty.unit)))), AT.v (Ty.sl (Ty.cons Ty.str (Ty.cons (Ty.int IntKind.i64) (Ty.cons (Ty.int IntKind.i64) Ty.unit))))]
def tys49 : List Ty := [Ty.bool]
def kds49 : List RK := []
def oks49 : List AT := owns sig49
def E49_4 (v5 : Int) (x0 : List (ByteArray × Int × Int × Unit)) (x1 : List (ByteArray × Int × Int × Unit)) : Env := [(0, PV.a (Atom.sl (Ty.cons Ty.str (Ty.cons (Ty.int IntKind.i64) (Ty.cons (Ty.int IntKind.i64) Ty.unit))) x0)), (1, PV.a (Atom.sl (Ty.cons Ty.str (Ty.cons (Ty.int IntKind.i64) (Ty.cons (Ty.int IntKind.i64) Ty.unit))) x1)), (5, PV.a (Atom.val (Value.int IntKind.i64 v5)))]
def L49_4 (v5 : Int) (x0 : List (ByteArray × Int × Int × Unit)) (x1 : List (ByteArray × Int × Int × Unit)) : Heap := []
mutual
def R49 : Nat → List (ByteArray × Int × Int × Unit) → List (ByteArray × Int × Int × Unit) → List Dyn → Prop
  | 0, _, _, _ => False
  | n + 1, x0, x1, ds => (if ((↑(List.length x0) : Int) != (↑(List.length x1) : Int)) = true then (ds = [Dyn.mk Ty.bool Bool.false]) else (R49_4 n (0) (x0) (x1) ds))
def R49_4 : Nat → Int → List (ByteArray × Int × Int × Unit) → List (ByteArray × Int × Int × Unit) → List Dyn → Prop
  | 0, _, _, _, _ => False
  | n + 1, v5, x0, x1, ds => (if (Decidable.decide (v5 < (↑(List.length x0) : Int))) = true then ((0 ≤ v5) ∧ (v5 < (↑(List.length x0) : Int)) ∧ ((0 ≤ v5) ∧ (v5 < (↑(List.length x1) : Int)) ∧ (if (!g70_0 (List.getD x0 (Int.toNat v5) (ByteArray.empty, 0, 0, ())) (List.getD x1 (Int.toNat v5) (ByteArray.empty, 0, 0, ()))) = true then (ds = [Dyn.mk Ty.bool Bool.false]) else ((InR IntKind.i64 (v5 + 1)) ∧ (R49_4 n (v5 + 1) (x0) (x1) ds))))) else (ds = [Dyn.mk Ty.bool Bool.true]))
end
theorem p49_0 (x0 : List (ByteArray × Int × Int × Unit)) (x1 : List (ByteArray × Int × Int × Unit)) : runF tab ext49 false 27 [] 2000 [] oks49 kds49 tys49 Try.f49.results [true] [.code b49] (entE 0 0 sig49 (x0, x1, ())) (entL sig49 (x0, x1, ())) = some ([Dyn.mk Ty.bool Bool.false], [], [((↑(List.length x0) : Int) != (↑(List.length x1) : Int)) = Bool.true]) := by kernel_rfl
theorem p49_1 (x0 : List (ByteArray × Int × Int × Unit)) (x1 : List (ByteArray × Int × Int × Unit)) : Am.runN tab ext49 false 27 [] 2000 [] [] [0, 1, 5] [] [false] [.code b49] (entE 0 0 sig49 (x0, x1, ())) (entL sig49 (x0, x1, ())) = some (cutAt b49 4, E49_4 (0) (x0) (x1), L49_4 (0) (x0) (x1), [((↑(List.length x0) : Int) != (↑(List.length x1) : Int)) = Bool.false]) := by kernel_rfl
theorem p49_2 (v5 : Int) (x0 : List (ByteArray × Int × Int × Unit)) (x1 : List (ByteArray × Int × Int × Unit)) : runF tab ext49 false 27 [] 2000 [] oks49 kds49 tys49 Try.f49.results [true, true] (cutAt b49 4) (E49_4 v5 x0 x1) (L49_4 v5 x0 x1) = some ([Dyn.mk Ty.bool Bool.false], [], [Decidable.decide (v5 < (↑(List.length x0) : Int)) = Bool.true, 0 ≤ v5, v5 < (↑(List.length x0) : Int), 0 ≤ v5, v5 < (↑(List.length x1) : Int), True, (!g70_0 (List.getD x0 (Int.toNat v5) (ByteArray.empty, 0, 0, ())) (List.getD x1 (Int.toNat v5) (ByteArray.empty, 0, 0, ()))) = Bool.true]) := by kernel_rfl
theorem p49_3 (v5 : Int) (x0 : List (ByteArray × Int × Int × Unit)) (x1 : List (ByteArray × Int × Int × Unit)) : Am.runN tab ext49 false 27 [] 2000 [] [] [0, 1, 5] [] [true, false] (cutAt b49 4) (E49_4 v5 x0 x1) (L49_4 v5 x0 x1) = some (cutAt b49 4, E49_4 (v5 + 1) (x0) (x1), L49_4 (v5 + 1) (x0) (x1), [Decidable.decide (v5 < (↑(List.length x0) : Int)) = Bool.true, 0 ≤ v5, v5 < (↑(List.length x0) : Int), 0 ≤ v5, v5 < (↑(List.length x1) : Int), True, (!g70_0 (List.getD x0 (Int.toNat v5) (ByteArray.empty, 0, 0, ())) (List.getD x1 (Int.toNat v5) (ByteArray.empty, 0, 0, ()))) = Bool.false, InR IntKind.i64 (v5 + 1)]) := by kernel_rfl
theorem p49_4 (v5 : Int) (x0 : List (ByteArray × Int × Int × Unit)) (x1 : List (ByteArray × Int × Int × Unit)) : runF tab ext49 false 27 [] 2000 [] oks49 kds49 tys49 Try.f49.results [false] (cutAt b49 4) (E49_4 v5 x0 x1) (L49_4 v5 x0 x1) = some ([Dyn.mk Ty.bool Bool.true], [], [Decidable.decide (v5 < (↑(List.length x0) : Int)) = Bool.false]) := by kernel_rfl
theorem snd49 : ∀ n, (∀ (x0 : List (ByteArray × Int × Int × Unit)) (x1 : List (ByteArray × Int × Int × Unit)) ds, R49 n x0 x1 ds → ∀ K q, AtV Try.prog 49 (PostR kds49 oks49 ds [] [] q K) 27 K q [] [.code b49] (entE 0 0 sig49 (x0, x1, ())) (entL sig49 (x0, x1, ()))) ∧ (∀ (v5 : Int) (x0 : List (ByteArray × Int × Int × Unit)) (x1 : List (ByteArray × Int × Int × Unit)) ds, R49_4 n v5 x0 x1 ds → ∀ K q, AtV Try.prog 49 (PostR kds49 oks49 ds [] [] q K) 27 K q [] (cutAt b49 4) (E49_4 v5 x0 x1) (L49_4 v5 x0 x1)) := by
  intro n
  induction n with
  | zero => exact ⟨fun _ _ _ h => by simp only [R49] at h, fun _ _ _ _ h => by simp only [R49_4] at h⟩
  | succ n ih =>
  obtain ⟨ih, ih4⟩ := ih
  refine ⟨?_, ?_⟩
  · intro x0 x1 ds h K q
    rw [R49] at h
    by_cases b0 : ((↑(List.length x0) : Int) != (↑(List.length x1) : Int)) = true
    · rw [if_pos b0] at h
      subst h
      exact AtV.fin Try.func49 tabOk ext49Ok mixed (p49_0 x0 x1) ⟨b0, trivial⟩
    · rw [if_neg b0] at h
      replace b0 := Bool.eq_false_iff.2 b0
      exact AtV.runN tabOk ext49Ok mixed (p49_1 x0 x1) ⟨b0, trivial⟩ (ih4 _ _ _ _ h K q)

  · intro v5 x0 x1 ds h K q
    rw [R49_4] at h
    by_cases b0 : (Decidable.decide (v5 < (↑(List.length x0) : Int))) = true
    · rw [if_pos b0] at h
      obtain ⟨s0, s1, h⟩ := h
      obtain ⟨s2, s3, h⟩ := h
      by_cases b1 : (!g70_0 (List.getD x0 (Int.toNat v5) (ByteArray.empty, 0, 0, ())) (List.getD x1 (Int.toNat v5) (ByteArray.empty, 0, 0, ()))) = true
      · rw [if_pos b1] at h
        subst h
        exact AtV.fin Try.func49 tabOk ext49Ok mixed (p49_2 v5 x0 x1) ⟨b0, s0, s1, s2, s3, trivial, b1, trivial⟩
      · rw [if_neg b1] at h
        replace b1 := Bool.eq_false_iff.2 b1
        obtain ⟨s4, h⟩ := h
        exact AtV.runN tabOk ext49Ok mixed (p49_3 v5 x0 x1) ⟨b0, s0, s1, s2, s3, trivial, b1, s4, trivial⟩ (ih4 _ _ _ _ h K q)
    · rw [if_neg b0] at h
      replace b0 := Bool.eq_false_iff.2 b0
      subst h
      exact AtV.fin Try.func49 tabOk ext49Ok mixed (p49_4 v5 x0 x1) ⟨b0, trivial⟩



theorem eq49 (x0 x1 : List (ByteArray × Int × Int × Unit)) (hl : x0.length = x1.length) (hm : x0.length ≤ maxLen) : ∀ k i : Nat, i + k = x0.length → R49_4 (k + 1) (i : Int) x0 x1 [⟨.bool, decide (x0.drop i = x1.drop i)⟩] := by
  intro k
  induction k with
  | zero =>
    intro i hi
    have h1 : ¬ (i : Int) < (x0.length : Int) := by omega
    rw [R49_4, if_neg (by simpa using h1), drop_end x0 i (by omega), drop_end x1 i (by omega)]
    simp
  | succ k ih =>
    intro i hi
    have h1 : (i : Int) < (x0.length : Int) := by omega
    rw [R49_4, if_pos (by simpa using h1)]
    refine ⟨by omega, h1, by omega, by omega, ?_⟩
    simp only [Int.toNat_natCast]
    rw [drop_get x0 i (ByteArray.empty, (0 : Int), (0 : Int), ()) (by omega), drop_get x1 i (ByteArray.empty, (0 : Int), (0 : Int), ()) (by omega)]
    by_cases he : x0.getD i (ByteArray.empty, (0 : Int), (0 : Int), ()) = x1.getD i (ByteArray.empty, (0 : Int), (0 : Int), ())
    · have hd := (eqd70 _ _).2 he
      rw [if_neg (by rw [hd]; simp)]
      refine ⟨inR_up hm (by omega), ?_⟩
      have := ih (i + 1) (by omega)
      simp only [he, List.cons.injEq, true_and]
      exact this
    · have hd : g70_0 (x0.getD i (ByteArray.empty, (0 : Int), (0 : Int), ())) (x1.getD i (ByteArray.empty, (0 : Int), (0 : Int), ())) = false :=
        Bool.eq_false_iff.2 fun h => he ((eqd70 _ _).1 h)
      rw [if_pos (by rw [hd]; rfl)]
      simp only [he, List.cons.injEq, false_and, decide_false]

def g49_0 (x0 x1 : List (ByteArray × Int × Int × Unit)) : Bool := decide (x0 = x1)
def P49 (x0 x1 : List (ByteArray × Int × Int × Unit)) : Prop := True
def S49 : Am.Spec := { sig := sig49, pre := fun ⟨x0, x1, _⟩ => P49 x0 x1, res := fun ⟨x0, x1, _⟩ => [⟨Ty.bool, g49_0 x0 x1⟩] }
theorem con49 : Contract Try.prog 49 S49 := contract_of Try.func49 hb49 (Nat.le_of_ble_eq_true (by kernel_rfl)) (fun ⟨x0, x1, _⟩ h hwf K q => by
  refine (snd49 (x0.length + 2)).1 x0 x1 _ ?_ K q
  show R49 (x0.length + 1 + 1) x0 x1 [⟨Ty.bool, decide (x0 = x1)⟩]
  rw [R49]
  by_cases hl : x0.length = x1.length
  · rw [if_neg (by simp [hl])]
    have := eq49 x0 x1 hl hwf.1.1 x0.length 0 (by omega)
    simpa using this
  · rw [if_pos (by simp; omega)]
    have : x0 ≠ x1 := fun h => hl (by rw [h])
    simp [this])

end Go.Proofs.Ytpcfcplggpchjaa

/- Function 8 (laws.eqDesk): its runs between cut points. Written by a program of this repo (gen). -/
set_option linter.unusedVariables false
set_option linter.unusedSimpArgs false
set_option maxRecDepth 100000
namespace Go.Proofs.Ytpcfcplggpchjaa
open Go Go.Am Go.Proofs
def ext8 : Ext := [(38, S38), (39, S39), (40, S40), (41, S41), (42, S42), (43, S43), (44, S44), (45, S45), (46, S46), (47, S47), (48, S48), (49, S49)]
theorem call8_38 : Callable Try.prog 38 := ⟨Try.f38, Try.func38, by kernel_rfl, by kernel_rfl⟩
theorem call8_39 : Callable Try.prog 39 := ⟨Try.f39, Try.func39, by kernel_rfl, by kernel_rfl⟩
theorem call8_40 : Callable Try.prog 40 := ⟨Try.f40, Try.func40, by kernel_rfl, by kernel_rfl⟩
theorem call8_41 : Callable Try.prog 41 := ⟨Try.f41, Try.func41, by kernel_rfl, by kernel_rfl⟩
theorem call8_42 : Callable Try.prog 42 := ⟨Try.f42, Try.func42, by kernel_rfl, by kernel_rfl⟩
theorem call8_43 : Callable Try.prog 43 := ⟨Try.f43, Try.func43, by kernel_rfl, by kernel_rfl⟩
theorem call8_44 : Callable Try.prog 44 := ⟨Try.f44, Try.func44, by kernel_rfl, by kernel_rfl⟩
theorem call8_45 : Callable Try.prog 45 := ⟨Try.f45, Try.func45, by kernel_rfl, by kernel_rfl⟩
theorem call8_46 : Callable Try.prog 46 := ⟨Try.f46, Try.func46, by kernel_rfl, by kernel_rfl⟩
theorem call8_47 : Callable Try.prog 47 := ⟨Try.f47, Try.func47, by kernel_rfl, by kernel_rfl⟩
theorem call8_48 : Callable Try.prog 48 := ⟨Try.f48, Try.func48, by kernel_rfl, by kernel_rfl⟩
theorem call8_49 : Callable Try.prog 49 := ⟨Try.f49, Try.func49, by kernel_rfl, by kernel_rfl⟩
theorem ext8Ok : ExtOk Try.prog ext8 := ⟨⟨call8_38, con38⟩, ⟨call8_39, con39⟩, ⟨call8_40, con40⟩, ⟨call8_41, con41⟩, ⟨call8_42, con42⟩, ⟨call8_43, con43⟩, ⟨call8_44, con44⟩, ⟨call8_45, con45⟩, ⟨call8_46, con46⟩, ⟨call8_47, con47⟩, ⟨call8_48, con48⟩, ⟨call8_49, con49⟩, trivial⟩

noncomputable def b8 : Code := bodyOf Try.f8
theorem hb8 : Try.f8.body = some b8 := by kernel_rfl
def sig8 : List AT := [AT.v (Ty.cons (Ty.sl (Ty.cons Ty.str (Ty.cons (Ty.int IntKind.i64) (Ty.cons (Ty.int IntKind.i64) (Ty.cons (Ty.int IntKind.i64) Ty.unit))))) (Ty.cons (Ty.cons (Ty.int IntKind.i64) (Ty.cons (Ty.int IntKind.i64) (Ty.cons (Ty.int IntKind.i64) (Ty.cons (Ty.int IntKind.i64) Ty.unit)))) (Ty.cons (Ty.sl (Ty.cons (Ty.int IntKind.i64) (Ty.cons (Ty.int IntKind.i64) (Ty.cons (Ty.int IntKind.i64) Ty.unit)))) (Ty.cons (Ty.sl (Ty.cons (Ty.int IntKind.i64) (Ty.cons (Ty.int IntKind.i64) (Ty.cons (Ty.int IntKind.i64) Ty.unit)))) (Ty.cons (Ty.cons (Ty.int IntKind.i64) (Ty.cons (Ty.int IntKind.i64) (Ty.cons (Ty.int IntKind.i64) Ty.unit))) (Ty.cons (Ty.cons (Ty.int IntKind.i64) (Ty.cons (Ty.int IntKind.i64) (Ty.cons (Ty.int IntKind.i64) Ty.unit))) (Ty.cons (Ty.sl (Ty.cons Ty.str (Ty.cons (Ty.int IntKind.i64) (Ty.cons (Ty.int IntKind.i64) Ty.unit)))) (Ty.cons (Ty.cons (Ty.int IntKind.i64) (Ty.cons (Ty.int IntKind.i64) (Ty.cons (Ty.int IntKind.i64) (Ty.cons (Ty.int IntKind.i64) Ty.unit)))) (Ty.cons (Ty.sl (Ty.cons Ty.str (Ty.cons (Ty.int IntKind.i64) (Ty.cons (Ty.int IntKind.i64) (Ty.cons (Ty.int IntKind.i64) Ty.unit))))) (Ty.cons (Ty.sl (Ty.cons (Ty.int IntKind.i64) (Ty.cons (Ty.int IntKind.i64) (Ty.cons (Ty.int IntKind.i64) Ty.unit)))) (Ty.cons (Ty.sl (Ty.cons Ty.str (Ty.cons (Ty.int IntKind.i64) (Ty.cons (Ty.int IntKind.i64) Ty.unit)))) (Ty.cons (Ty.sl (Ty.cons Ty.str (Ty.cons (Ty.int IntKind.i64) (Ty.cons (Ty.int IntKind.i64) Ty.unit)))) Ty.unit)))))))))))), AT.v (Ty.cons (Ty.sl (Ty.cons Ty.str (Ty.cons (Ty.int IntKind.i64) (Ty.cons (Ty.int IntKind.i64) (Ty.cons (Ty.int IntKind.i64) Ty.unit))))) (Ty.cons (Ty.cons (Ty.int IntKind.i64) (Ty.cons (Ty.int IntKind.i64) (Ty.cons (Ty.int IntKind.i64) (Ty.cons (Ty.int IntKind.i64) Ty.unit)))) (Ty.cons (Ty.sl (Ty.cons (Ty.int IntKind.i64) (Ty.cons (Ty.int IntKind.i64) (Ty.cons (Ty.int IntKind.i64) Ty.unit)))) (Ty.cons (Ty.sl (Ty.cons (Ty.int IntKind.i64) (Ty.cons (Ty.int IntKind.i64) (Ty.cons (Ty.int IntKind.i64) Ty.unit)))) (Ty.cons (Ty.cons (Ty.int IntKind.i64) (Ty.cons (Ty.int IntKind.i64) (Ty.cons (Ty.int IntKind.i64) Ty.unit))) (Ty.cons (Ty.cons (Ty.int IntKind.i64) (Ty.cons (Ty.int IntKind.i64) (Ty.cons (Ty.int IntKind.i64) Ty.unit))) (Ty.cons (Ty.sl (Ty.cons Ty.str (Ty.cons (Ty.int IntKind.i64) (Ty.cons (Ty.int IntKind.i64) Ty.unit)))) (Ty.cons (Ty.cons (Ty.int IntKind.i64) (Ty.cons (Ty.int IntKind.i64) (Ty.cons (Ty.int IntKind.i64) (Ty.cons (Ty.int IntKind.i64) Ty.unit)))) (Ty.cons (Ty.sl (Ty.cons Ty.str (Ty.cons (Ty.int IntKind.i64) (Ty.cons (Ty.int IntKind.i64) (Ty.cons (Ty.int IntKind.i64) Ty.unit))))) (Ty.cons (Ty.sl (Ty.cons (Ty.int IntKind.i64) (Ty.cons (Ty.int IntKind.i64) (Ty.cons (Ty.int IntKind.i64) Ty.unit)))) (Ty.cons (Ty.sl (Ty.cons Ty.str (Ty.cons (Ty.int IntKind.i64) (Ty.cons (Ty.int IntKind.i64) Ty.unit)))) (Ty.cons (Ty.sl (Ty.cons Ty.str (Ty.cons (Ty.int IntKind.i64) (Ty.cons (Ty.int IntKind.i64) Ty.unit)))) Ty.unit))))))))))))]
def tys8 : List Ty := [Ty.bool]
def kds8 : List RK := []
def oks8 : List AT := owns sig8
def P8 (x0 : TyA0) (x1 : TyA0) : Prop := True
def g8_0 (x0 : TyA0) (x1 : TyA0) : Bool := (if (!g38_0 (Prod.fst x0) (Prod.fst x1)) = true then Bool.false else (if (!g39_0 (Prod.fst (Prod.snd x0)) (Prod.fst (Prod.snd x1))) = true then Bool.false else (if (!g40_0 (Prod.fst (Prod.snd (Prod.snd x0))) (Prod.fst (Prod.snd (Prod.snd x1)))) = true then Bool.false else (if (!g41_0 (Prod.fst (Prod.snd (Prod.snd (Prod.snd x0)))) (Prod.fst (Prod.snd (Prod.snd (Prod.snd x1))))) = true then Bool.false else (if (!g42_0 (Prod.fst (Prod.snd (Prod.snd (Prod.snd (Prod.snd x0))))) (Prod.fst (Prod.snd (Prod.snd (Prod.snd (Prod.snd x1)))))) = true then Bool.false else (if (!g43_0 (Prod.fst (Prod.snd (Prod.snd (Prod.snd (Prod.snd (Prod.snd x0)))))) (Prod.fst (Prod.snd (Prod.snd (Prod.snd (Prod.snd (Prod.snd x1))))))) = true then Bool.false else (if (!g44_0 (Prod.fst (Prod.snd (Prod.snd (Prod.snd (Prod.snd (Prod.snd (Prod.snd x0))))))) (Prod.fst (Prod.snd (Prod.snd (Prod.snd (Prod.snd (Prod.snd (Prod.snd x1)))))))) = true then Bool.false else (if (!g45_0 (Prod.fst (Prod.snd (Prod.snd (Prod.snd (Prod.snd (Prod.snd (Prod.snd (Prod.snd x0)))))))) (Prod.fst (Prod.snd (Prod.snd (Prod.snd (Prod.snd (Prod.snd (Prod.snd (Prod.snd x1))))))))) = true then Bool.false else (if (!g46_0 (Prod.fst (Prod.snd (Prod.snd (Prod.snd (Prod.snd (Prod.snd (Prod.snd (Prod.snd (Prod.snd x0))))))))) (Prod.fst (Prod.snd (Prod.snd (Prod.snd (Prod.snd (Prod.snd (Prod.snd (Prod.snd (Prod.snd x1)))))))))) = true then Bool.false else (if (!g47_0 (Prod.fst (Prod.snd (Prod.snd (Prod.snd (Prod.snd (Prod.snd (Prod.snd (Prod.snd (Prod.snd (Prod.snd x0)))))))))) (Prod.fst (Prod.snd (Prod.snd (Prod.snd (Prod.snd (Prod.snd (Prod.snd (Prod.snd (Prod.snd (Prod.snd x1))))))))))) = true then Bool.false else (if (!g48_0 (Prod.fst (Prod.snd (Prod.snd (Prod.snd (Prod.snd (Prod.snd (Prod.snd (Prod.snd (Prod.snd (Prod.snd (Prod.snd x0))))))))))) (Prod.fst (Prod.snd (Prod.snd (Prod.snd (Prod.snd (Prod.snd (Prod.snd (Prod.snd (Prod.snd (Prod.snd (Prod.snd x1)))))))))))) = true then Bool.false else (if (!g49_0 (Prod.fst (Prod.snd (Prod.snd (Prod.snd (Prod.snd (Prod.snd (Prod.snd (Prod.snd (Prod.snd (Prod.snd (Prod.snd (Prod.snd x0)))))))))))) (Prod.fst (Prod.snd (Prod.snd (Prod.snd (Prod.snd (Prod.snd (Prod.snd (Prod.snd (Prod.snd (Prod.snd (Prod.snd (Prod.snd x1))))))))))))) = true then Bool.false else Bool.true))))))))))))
theorem p8_0 (x0 : TyA0) (x1 : TyA0) : runF tab ext8 false 77 [] 2000 [] oks8 kds8 tys8 Try.f8.results [true] [.code b8] (entE 0 0 sig8 (x0, x1, ())) (entL sig8 (x0, x1, ())) = some ([Dyn.mk Ty.bool Bool.false], [], [True, (!g38_0 (Prod.fst x0) (Prod.fst x1)) = Bool.true]) := by kernel_rfl
theorem p8_1 (x0 : TyA0) (x1 : TyA0) : runF tab ext8 false 77 [] 2000 [] oks8 kds8 tys8 Try.f8.results [false, true] [.code b8] (entE 0 0 sig8 (x0, x1, ())) (entL sig8 (x0, x1, ())) = some ([Dyn.mk Ty.bool Bool.false], [], [True, (!g38_0 (Prod.fst x0) (Prod.fst x1)) = Bool.false, True, (!g39_0 (Prod.fst (Prod.snd x0)) (Prod.fst (Prod.snd x1))) = Bool.true]) := by kernel_rfl
theorem p8_2 (x0 : TyA0) (x1 : TyA0) : runF tab ext8 false 77 [] 2000 [] oks8 kds8 tys8 Try.f8.results [false, false, true] [.code b8] (entE 0 0 sig8 (x0, x1, ())) (entL sig8 (x0, x1, ())) = some ([Dyn.mk Ty.bool Bool.false], [], [True, (!g38_0 (Prod.fst x0) (Prod.fst x1)) = Bool.false, True, (!g39_0 (Prod.fst (Prod.snd x0)) (Prod.fst (Prod.snd x1))) = Bool.false, True, (!g40_0 (Prod.fst (Prod.snd (Prod.snd x0))) (Prod.fst (Prod.snd (Prod.snd x1)))) = Bool.true]) := by kernel_rfl
theorem p8_3 (x0 : TyA0) (x1 : TyA0) : runF tab ext8 false 77 [] 2000 [] oks8 kds8 tys8 Try.f8.results [false, false, false, true] [.code b8] (entE 0 0 sig8 (x0, x1, ())) (entL sig8 (x0, x1, ())) = some ([Dyn.mk Ty.bool Bool.false], [], [True, (!g38_0 (Prod.fst x0) (Prod.fst x1)) = Bool.false, True, (!g39_0 (Prod.fst (Prod.snd x0)) (Prod.fst (Prod.snd x1))) = Bool.false, True, (!g40_0 (Prod.fst (Prod.snd (Prod.snd x0))) (Prod.fst (Prod.snd (Prod.snd x1)))) = Bool.false, True, (!g41_0 (Prod.fst (Prod.snd (Prod.snd (Prod.snd x0)))) (Prod.fst (Prod.snd (Prod.snd (Prod.snd x1))))) = Bool.true]) := by kernel_rfl
theorem p8_4 (x0 : TyA0) (x1 : TyA0) : runF tab ext8 false 77 [] 2000 [] oks8 kds8 tys8 Try.f8.results [false, false, false, false, true] [.code b8] (entE 0 0 sig8 (x0, x1, ())) (entL sig8 (x0, x1, ())) = some ([Dyn.mk Ty.bool Bool.false], [], [True, (!g38_0 (Prod.fst x0) (Prod.fst x1)) = Bool.false, True, (!g39_0 (Prod.fst (Prod.snd x0)) (Prod.fst (Prod.snd x1))) = Bool.false, True, (!g40_0 (Prod.fst (Prod.snd (Prod.snd x0))) (Prod.fst (Prod.snd (Prod.snd x1)))) = Bool.false, True, (!g41_0 (Prod.fst (Prod.snd (Prod.snd (Prod.snd x0)))) (Prod.fst (Prod.snd (Prod.snd (Prod.snd x1))))) = Bool.false, True, (!g42_0 (Prod.fst (Prod.snd (Prod.snd (Prod.snd (Prod.snd x0))))) (Prod.fst (Prod.snd (Prod.snd (Prod.snd (Prod.snd x1)))))) = Bool.true]) := by kernel_rfl
theorem p8_5 (x0 : TyA0) (x1 : TyA0) : runF tab ext8 false 77 [] 2000 [] oks8 kds8 tys8 Try.f8.results [false, false, false, false, false, true] [.code b8] (entE 0 0 sig8 (x0, x1, ())) (entL sig8 (x0, x1, ())) = some ([Dyn.mk Ty.bool Bool.false], [], [True, (!g38_0 (Prod.fst x0) (Prod.fst x1)) = Bool.false, True, (!g39_0 (Prod.fst (Prod.snd x0)) (Prod.fst (Prod.snd x1))) = Bool.false, True, (!g40_0 (Prod.fst (Prod.snd (Prod.snd x0))) (Prod.fst (Prod.snd (Prod.snd x1)))) = Bool.false, True, (!g41_0 (Prod.fst (Prod.snd (Prod.snd (Prod.snd x0)))) (Prod.fst (Prod.snd (Prod.snd (Prod.snd x1))))) = Bool.false, True, (!g42_0 (Prod.fst (Prod.snd (Prod.snd (Prod.snd (Prod.snd x0))))) (Prod.fst (Prod.snd (Prod.snd (Prod.snd (Prod.snd x1)))))) = Bool.false, True, (!g43_0 (Prod.fst (Prod.snd (Prod.snd (Prod.snd (Prod.snd (Prod.snd x0)))))) (Prod.fst (Prod.snd (Prod.snd (Prod.snd (Prod.snd (Prod.snd x1))))))) = Bool.true]) := by kernel_rfl
theorem p8_6 (x0 : TyA0) (x1 : TyA0) : runF tab ext8 false 77 [] 2000 [] oks8 kds8 tys8 Try.f8.results [false, false, false, false, false, false, true] [.code b8] (entE 0 0 sig8 (x0, x1, ())) (entL sig8 (x0, x1, ())) = some ([Dyn.mk Ty.bool Bool.false], [], [True, (!g38_0 (Prod.fst x0) (Prod.fst x1)) = Bool.false, True, (!g39_0 (Prod.fst (Prod.snd x0)) (Prod.fst (Prod.snd x1))) = Bool.false, True, (!g40_0 (Prod.fst (Prod.snd (Prod.snd x0))) (Prod.fst (Prod.snd (Prod.snd x1)))) = Bool.false, True, (!g41_0 (Prod.fst (Prod.snd (Prod.snd (Prod.snd x0)))) (Prod.fst (Prod.snd (Prod.snd (Prod.snd x1))))) = Bool.false, True, (!g42_0 (Prod.fst (Prod.snd (Prod.snd (Prod.snd (Prod.snd x0))))) (Prod.fst (Prod.snd (Prod.snd (Prod.snd (Prod.snd x1)))))) = Bool.false, True, (!g43_0 (Prod.fst (Prod.snd (Prod.snd (Prod.snd (Prod.snd (Prod.snd x0)))))) (Prod.fst (Prod.snd (Prod.snd (Prod.snd (Prod.snd (Prod.snd x1))))))) = Bool.false, True, (!g44_0 (Prod.fst (Prod.snd (Prod.snd (Prod.snd (Prod.snd (Prod.snd (Prod.snd x0))))))) (Prod.fst (Prod.snd (Prod.snd (Prod.snd (Prod.snd (Prod.snd (Prod.snd x1)))))))) = Bool.true]) := by kernel_rfl
theorem p8_7 (x0 : TyA0) (x1 : TyA0) : runF tab ext8 false 77 [] 2000 [] oks8 kds8 tys8 Try.f8.results [false, false, false, false, false, false, false, true] [.code b8] (entE 0 0 sig8 (x0, x1, ())) (entL sig8 (x0, x1, ())) = some ([Dyn.mk Ty.bool Bool.false], [], [True, (!g38_0 (Prod.fst x0) (Prod.fst x1)) = Bool.false, True, (!g39_0 (Prod.fst (Prod.snd x0)) (Prod.fst (Prod.snd x1))) = Bool.false, True, (!g40_0 (Prod.fst (Prod.snd (Prod.snd x0))) (Prod.fst (Prod.snd (Prod.snd x1)))) = Bool.false, True, (!g41_0 (Prod.fst (Prod.snd (Prod.snd (Prod.snd x0)))) (Prod.fst (Prod.snd (Prod.snd (Prod.snd x1))))) = Bool.false, True, (!g42_0 (Prod.fst (Prod.snd (Prod.snd (Prod.snd (Prod.snd x0))))) (Prod.fst (Prod.snd (Prod.snd (Prod.snd (Prod.snd x1)))))) = Bool.false, True, (!g43_0 (Prod.fst (Prod.snd (Prod.snd (Prod.snd (Prod.snd (Prod.snd x0)))))) (Prod.fst (Prod.snd (Prod.snd (Prod.snd (Prod.snd (Prod.snd x1))))))) = Bool.false, True, (!g44_0 (Prod.fst (Prod.snd (Prod.snd (Prod.snd (Prod.snd (Prod.snd (Prod.snd x0))))))) (Prod.fst (Prod.snd (Prod.snd (Prod.snd (Prod.snd (Prod.snd (Prod.snd x1)))))))) = Bool.false, True, (!g45_0 (Prod.fst (Prod.snd (Prod.snd (Prod.snd (Prod.snd (Prod.snd (Prod.snd (Prod.snd x0)))))))) (Prod.fst (Prod.snd (Prod.snd (Prod.snd (Prod.snd (Prod.snd (Prod.snd (Prod.snd x1))))))))) = Bool.true]) := by kernel_rfl
theorem p8_8 (x0 : TyA0) (x1 : TyA0) : runF tab ext8 false 77 [] 2000 [] oks8 kds8 tys8 Try.f8.results [false, false, false, false, false, false, false, false, true] [.code b8] (entE 0 0 sig8 (x0, x1, ())) (entL sig8 (x0, x1, ())) = some ([Dyn.mk Ty.bool Bool.false], [], [True, (!g38_0 (Prod.fst x0) (Prod.fst x1)) = Bool.false, True, (!g39_0 (Prod.fst (Prod.snd x0)) (Prod.fst (Prod.snd x1))) = Bool.false, True, (!g40_0 (Prod.fst (Prod.snd (Prod.snd x0))) (Prod.fst (Prod.snd (Prod.snd x1)))) = Bool.false, True, (!g41_0 (Prod.fst (Prod.snd (Prod.snd (Prod.snd x0)))) (Prod.fst (Prod.snd (Prod.snd (Prod.snd x1))))) = Bool.false, True, (!g42_0 (Prod.fst (Prod.snd (Prod.snd (Prod.snd (Prod.snd x0))))) (Prod.fst (Prod.snd (Prod.snd (Prod.snd (Prod.snd x1)))))) = Bool.false, True, (!g43_0 (Prod.fst (Prod.snd (Prod.snd (Prod.snd (Prod.snd (Prod.snd x0)))))) (Prod.fst (Prod.snd (Prod.snd (Prod.snd (Prod.snd (Prod.snd x1))))))) = Bool.false, True, (!g44_0 (Prod.fst (Prod.snd (Prod.snd (Prod.snd (Prod.snd (Prod.snd (Prod.snd x0))))))) (Prod.fst (Prod.snd (Prod.snd (Prod.snd (Prod.snd (Prod.snd (Prod.snd x1)))))))) = Bool.false, True, (!g45_0 (Prod.fst (Prod.snd (Prod.snd (Prod.snd (Prod.snd (Prod.snd (Prod.snd (Prod.snd x0)))))))) (Prod.fst (Prod.snd (Prod.snd (Prod.snd (Prod.snd (Prod.snd (Prod.snd (Prod.snd x1))))))))) = Bool.false, True, (!g46_0 (Prod.fst (Prod.snd (Prod.snd (Prod.snd (Prod.snd (Prod.snd (Prod.snd (Prod.snd (Prod.snd x0))))))))) (Prod.fst (Prod.snd (Prod.snd (Prod.snd (Prod.snd (Prod.snd (Prod.snd (Prod.snd (Prod.snd x1)))))))))) = Bool.true]) := by kernel_rfl
theorem p8_9 (x0 : TyA0) (x1 : TyA0) : runF tab ext8 false 77 [] 2000 [] oks8 kds8 tys8 Try.f8.results [false, false, false, false, false, false, false, false, false, true] [.code b8] (entE 0 0 sig8 (x0, x1, ())) (entL sig8 (x0, x1, ())) = some ([Dyn.mk Ty.bool Bool.false], [], [True, (!g38_0 (Prod.fst x0) (Prod.fst x1)) = Bool.false, True, (!g39_0 (Prod.fst (Prod.snd x0)) (Prod.fst (Prod.snd x1))) = Bool.false, True, (!g40_0 (Prod.fst (Prod.snd (Prod.snd x0))) (Prod.fst (Prod.snd (Prod.snd x1)))) = Bool.false, True, (!g41_0 (Prod.fst (Prod.snd (Prod.snd (Prod.snd x0)))) (Prod.fst (Prod.snd (Prod.snd (Prod.snd x1))))) = Bool.false, True, (!g42_0 (Prod.fst (Prod.snd (Prod.snd (Prod.snd (Prod.snd x0))))) (Prod.fst (Prod.snd (Prod.snd (Prod.snd (Prod.snd x1)))))) = Bool.false, True, (!g43_0 (Prod.fst (Prod.snd (Prod.snd (Prod.snd (Prod.snd (Prod.snd x0)))))) (Prod.fst (Prod.snd (Prod.snd (Prod.snd (Prod.snd (Prod.snd x1))))))) = Bool.false, True, (!g44_0 (Prod.fst (Prod.snd (Prod.snd (Prod.snd (Prod.snd (Prod.snd (Prod.snd x0))))))) (Prod.fst (Prod.snd (Prod.snd (Prod.snd (Prod.snd (Prod.snd (Prod.snd x1)))))))) = Bool.false, True, (!g45_0 (Prod.fst (Prod.snd (Prod.snd (Prod.snd (Prod.snd (Prod.snd (Prod.snd (Prod.snd x0)))))))) (Prod.fst (Prod.snd (Prod.snd (Prod.snd (Prod.snd (Prod.snd (Prod.snd (Prod.snd x1))))))))) = Bool.false, True, (!g46_0 (Prod.fst (Prod.snd (Prod.snd (Prod.snd (Prod.snd (Prod.snd (Prod.snd (Prod.snd (Prod.snd x0))))))))) (Prod.fst (Prod.snd (Prod.snd (Prod.snd (Prod.snd (Prod.snd (Prod.snd (Prod.snd (Prod.snd x1)))))))))) = Bool.false, True, (!g47_0 (Prod.fst (Prod.snd (Prod.snd (Prod.snd (Prod.snd (Prod.snd (Prod.snd (Prod.snd (Prod.snd (Prod.snd x0)))))))))) (Prod.fst (Prod.snd (Prod.snd (Prod.snd (Prod.snd (Prod.snd (Prod.snd (Prod.snd (Prod.snd (Prod.snd x1))))))))))) = Bool.true]) := by kernel_rfl
theorem p8_10 (x0 : TyA0) (x1 : TyA0) : runF tab ext8 false 77 [] 2000 [] oks8 kds8 tys8 Try.f8.results [false, false, false, false, false, false, false, false, false, false, true] [.code b8] (entE 0 0 sig8 (x0, x1, ())) (entL sig8 (x0, x1, ())) = some ([Dyn.mk Ty.bool Bool.false], [], [True, (!g38_0 (Prod.fst x0) (Prod.fst x1)) = Bool.false, True, (!g39_0 (Prod.fst (Prod.snd x0)) (Prod.fst (Prod.snd x1))) = Bool.false, True, (!g40_0 (Prod.fst (Prod.snd (Prod.snd x0))) (Prod.fst (Prod.snd (Prod.snd x1)))) = Bool.false, True, (!g41_0 (Prod.fst (Prod.snd (Prod.snd (Prod.snd x0)))) (Prod.fst (Prod.snd (Prod.snd (Prod.snd x1))))) = Bool.false, True, (!g42_0 (Prod.fst (Prod.snd (Prod.snd (Prod.snd (Prod.snd x0))))) (Prod.fst (Prod.snd (Prod.snd (Prod.snd (Prod.snd x1)))))) = Bool.false, True, (!g43_0 (Prod.fst (Prod.snd (Prod.snd (Prod.snd (Prod.snd (Prod.snd x0)))))) (Prod.fst (Prod.snd (Prod.snd (Prod.snd (Prod.snd (Prod.snd x1))))))) = Bool.false, True, (!g44_0 (Prod.fst (Prod.snd (Prod.snd (Prod.snd (Prod.snd (Prod.snd (Prod.snd x0))))))) (Prod.fst (Prod.snd (Prod.snd (Prod.snd (Prod.snd (Prod.snd (Prod.snd x1)))))))) = Bool.false, True, (!g45_0 (Prod.fst (Prod.snd (Prod.snd (Prod.snd (Prod.snd (Prod.snd (Prod.snd (Prod.snd x0)))))))) (Prod.fst (Prod.snd (Prod.snd (Prod.snd (Prod.snd (Prod.snd (Prod.snd (Prod.snd x1))))))))) = Bool.false, True, (!g46_0 (Prod.fst (Prod.snd (Prod.snd (Prod.snd (Prod.snd (Prod.snd (Prod.snd (Prod.snd (Prod.snd x0))))))))) (Prod.fst (Prod.snd (Prod.snd (Prod.snd (Prod.snd (Prod.snd (Prod.snd (Prod.snd (Prod.snd x1)))))))))) = Bool.false, True, (!g47_0 (Prod.fst (Prod.snd (Prod.snd (Prod.snd (Prod.snd (Prod.snd (Prod.snd (Prod.snd (Prod.snd (Prod.snd x0)))))))))) (Prod.fst (Prod.snd (Prod.snd (Prod.snd (Prod.snd (Prod.snd (Prod.snd (Prod.snd (Prod.snd (Prod.snd x1))))))))))) = Bool.false, True, (!g48_0 (Prod.fst (Prod.snd (Prod.snd (Prod.snd (Prod.snd (Prod.snd (Prod.snd (Prod.snd (Prod.snd (Prod.snd (Prod.snd x0))))))))))) (Prod.fst (Prod.snd (Prod.snd (Prod.snd (Prod.snd (Prod.snd (Prod.snd (Prod.snd (Prod.snd (Prod.snd (Prod.snd x1)))))))))))) = Bool.true]) := by kernel_rfl
theorem p8_11 (x0 : TyA0) (x1 : TyA0) : runF tab ext8 false 77 [] 2000 [] oks8 kds8 tys8 Try.f8.results [false, false, false, false, false, false, false, false, false, false, false, true] [.code b8] (entE 0 0 sig8 (x0, x1, ())) (entL sig8 (x0, x1, ())) = some ([Dyn.mk Ty.bool Bool.false], [], [True, (!g38_0 (Prod.fst x0) (Prod.fst x1)) = Bool.false, True, (!g39_0 (Prod.fst (Prod.snd x0)) (Prod.fst (Prod.snd x1))) = Bool.false, True, (!g40_0 (Prod.fst (Prod.snd (Prod.snd x0))) (Prod.fst (Prod.snd (Prod.snd x1)))) = Bool.false, True, (!g41_0 (Prod.fst (Prod.snd (Prod.snd (Prod.snd x0)))) (Prod.fst (Prod.snd (Prod.snd (Prod.snd x1))))) = Bool.false, True, (!g42_0 (Prod.fst (Prod.snd (Prod.snd (Prod.snd (Prod.snd x0))))) (Prod.fst (Prod.snd (Prod.snd (Prod.snd (Prod.snd x1)))))) = Bool.false, True, (!g43_0 (Prod.fst (Prod.snd (Prod.snd (Prod.snd (Prod.snd (Prod.snd x0)))))) (Prod.fst (Prod.snd (Prod.snd (Prod.snd (Prod.snd (Prod.snd x1))))))) = Bool.false, True, (!g44_0 (Prod.fst (Prod.snd (Prod.snd (Prod.snd (Prod.snd (Prod.snd (Prod.snd x0))))))) (Prod.fst (Prod.snd (Prod.snd (Prod.snd (Prod.snd (Prod.snd (Prod.snd x1)))))))) = Bool.false, True, (!g45_0 (Prod.fst (Prod.snd (Prod.snd (Prod.snd (Prod.snd (Prod.snd (Prod.snd (Prod.snd x0)))))))) (Prod.fst (Prod.snd (Prod.snd (Prod.snd (Prod.snd (Prod.snd (Prod.snd (Prod.snd x1))))))))) = Bool.false, True, (!g46_0 (Prod.fst (Prod.snd (Prod.snd (Prod.snd (Prod.snd (Prod.snd (Prod.snd (Prod.snd (Prod.snd x0))))))))) (Prod.fst (Prod.snd (Prod.snd (Prod.snd (Prod.snd (Prod.snd (Prod.snd (Prod.snd (Prod.snd x1)))))))))) = Bool.false, True, (!g47_0 (Prod.fst (Prod.snd (Prod.snd (Prod.snd (Prod.snd (Prod.snd (Prod.snd (Prod.snd (Prod.snd (Prod.snd x0)))))))))) (Prod.fst (Prod.snd (Prod.snd (Prod.snd (Prod.snd (Prod.snd (Prod.snd (Prod.snd (Prod.snd (Prod.snd x1))))))))))) = Bool.false, True, (!g48_0 (Prod.fst (Prod.snd (Prod.snd (Prod.snd (Prod.snd (Prod.snd (Prod.snd (Prod.snd (Prod.snd (Prod.snd (Prod.snd x0))))))))))) (Prod.fst (Prod.snd (Prod.snd (Prod.snd (Prod.snd (Prod.snd (Prod.snd (Prod.snd (Prod.snd (Prod.snd (Prod.snd x1)))))))))))) = Bool.false, True, (!g49_0 (Prod.fst (Prod.snd (Prod.snd (Prod.snd (Prod.snd (Prod.snd (Prod.snd (Prod.snd (Prod.snd (Prod.snd (Prod.snd (Prod.snd x0)))))))))))) (Prod.fst (Prod.snd (Prod.snd (Prod.snd (Prod.snd (Prod.snd (Prod.snd (Prod.snd (Prod.snd (Prod.snd (Prod.snd (Prod.snd x1))))))))))))) = Bool.true]) := by kernel_rfl
theorem p8_12 (x0 : TyA0) (x1 : TyA0) : runF tab ext8 false 77 [] 2000 [] oks8 kds8 tys8 Try.f8.results [false, false, false, false, false, false, false, false, false, false, false, false] [.code b8] (entE 0 0 sig8 (x0, x1, ())) (entL sig8 (x0, x1, ())) = some ([Dyn.mk Ty.bool Bool.true], [], [True, (!g38_0 (Prod.fst x0) (Prod.fst x1)) = Bool.false, True, (!g39_0 (Prod.fst (Prod.snd x0)) (Prod.fst (Prod.snd x1))) = Bool.false, True, (!g40_0 (Prod.fst (Prod.snd (Prod.snd x0))) (Prod.fst (Prod.snd (Prod.snd x1)))) = Bool.false, True, (!g41_0 (Prod.fst (Prod.snd (Prod.snd (Prod.snd x0)))) (Prod.fst (Prod.snd (Prod.snd (Prod.snd x1))))) = Bool.false, True, (!g42_0 (Prod.fst (Prod.snd (Prod.snd (Prod.snd (Prod.snd x0))))) (Prod.fst (Prod.snd (Prod.snd (Prod.snd (Prod.snd x1)))))) = Bool.false, True, (!g43_0 (Prod.fst (Prod.snd (Prod.snd (Prod.snd (Prod.snd (Prod.snd x0)))))) (Prod.fst (Prod.snd (Prod.snd (Prod.snd (Prod.snd (Prod.snd x1))))))) = Bool.false, True, (!g44_0 (Prod.fst (Prod.snd (Prod.snd (Prod.snd (Prod.snd (Prod.snd (Prod.snd x0))))))) (Prod.fst (Prod.snd (Prod.snd (Prod.snd (Prod.snd (Prod.snd (Prod.snd x1)))))))) = Bool.false, True, (!g45_0 (Prod.fst (Prod.snd (Prod.snd (Prod.snd (Prod.snd (Prod.snd (Prod.snd (Prod.snd x0)))))))) (Prod.fst (Prod.snd (Prod.snd (Prod.snd (Prod.snd (Prod.snd (Prod.snd (Prod.snd x1))))))))) = Bool.false, True, (!g46_0 (Prod.fst (Prod.snd (Prod.snd (Prod.snd (Prod.snd (Prod.snd (Prod.snd (Prod.snd (Prod.snd x0))))))))) (Prod.fst (Prod.snd (Prod.snd (Prod.snd (Prod.snd (Prod.snd (Prod.snd (Prod.snd (Prod.snd x1)))))))))) = Bool.false, True, (!g47_0 (Prod.fst (Prod.snd (Prod.snd (Prod.snd (Prod.snd (Prod.snd (Prod.snd (Prod.snd (Prod.snd (Prod.snd x0)))))))))) (Prod.fst (Prod.snd (Prod.snd (Prod.snd (Prod.snd (Prod.snd (Prod.snd (Prod.snd (Prod.snd (Prod.snd x1))))))))))) = Bool.false, True, (!g48_0 (Prod.fst (Prod.snd (Prod.snd (Prod.snd (Prod.snd (Prod.snd (Prod.snd (Prod.snd (Prod.snd (Prod.snd (Prod.snd x0))))))))))) (Prod.fst (Prod.snd (Prod.snd (Prod.snd (Prod.snd (Prod.snd (Prod.snd (Prod.snd (Prod.snd (Prod.snd (Prod.snd x1)))))))))))) = Bool.false, True, (!g49_0 (Prod.fst (Prod.snd (Prod.snd (Prod.snd (Prod.snd (Prod.snd (Prod.snd (Prod.snd (Prod.snd (Prod.snd (Prod.snd (Prod.snd x0)))))))))))) (Prod.fst (Prod.snd (Prod.snd (Prod.snd (Prod.snd (Prod.snd (Prod.snd (Prod.snd (Prod.snd (Prod.snd (Prod.snd (Prod.snd x1))))))))))))) = Bool.false]) := by kernel_rfl
theorem at8 (x0 : TyA0) (x1 : TyA0) (h : P8 x0 x1) (K : Ctx) (q : Nat → Value) : AtV Try.prog 8 (PostR kds8 oks8 [⟨Ty.bool, g8_0 x0 x1⟩] [] [] q K) 77 K q [] [.code b8] (entE 0 0 sig8 (x0, x1, ())) (entL sig8 (x0, x1, ())) := by
  unfold P8 at h
  unfold g8_0
  by_cases b0 : (!g38_0 (Prod.fst x0) (Prod.fst x1)) = true
  · try simp only [if_pos b0] at h ⊢
    exact AtV.fin Try.func8 tabOk ext8Ok mixed (p8_0 x0 x1) ⟨trivial, b0, trivial⟩
  · try simp only [if_neg b0] at h ⊢
    replace b0 := Bool.eq_false_iff.2 b0
    by_cases b1 : (!g39_0 (Prod.fst (Prod.snd x0)) (Prod.fst (Prod.snd x1))) = true
    · try simp only [if_pos b1] at h ⊢
      exact AtV.fin Try.func8 tabOk ext8Ok mixed (p8_1 x0 x1) ⟨trivial, b0, trivial, b1, trivial⟩
    · try simp only [if_neg b1] at h ⊢
      replace b1 := Bool.eq_false_iff.2 b1
      by_cases b2 : (!g40_0 (Prod.fst (Prod.snd (Prod.snd x0))) (Prod.fst (Prod.snd (Prod.snd x1)))) = true
      · try simp only [if_pos b2] at h ⊢
        exact AtV.fin Try.func8 tabOk ext8Ok mixed (p8_2 x0 x1) ⟨trivial, b0, trivial, b1, trivial, b2, trivial⟩
      · try simp only [if_neg b2] at h ⊢
        replace b2 := Bool.eq_false_iff.2 b2
        by_cases b3 : (!g41_0 (Prod.fst (Prod.snd (Prod.snd (Prod.snd x0)))) (Prod.fst (Prod.snd (Prod.snd (Prod.snd x1))))) = true
        · try simp only [if_pos b3] at h ⊢
          exact AtV.fin Try.func8 tabOk ext8Ok mixed (p8_3 x0 x1) ⟨trivial, b0, trivial, b1, trivial, b2, trivial, b3, trivial⟩
        · try simp only [if_neg b3] at h ⊢
          replace b3 := Bool.eq_false_iff.2 b3
          by_cases b4 : (!g42_0 (Prod.fst (Prod.snd (Prod.snd (Prod.snd (Prod.snd x0))))) (Prod.fst (Prod.snd (Prod.snd (Prod.snd (Prod.snd x1)))))) = true
          · try simp only [if_pos b4] at h ⊢
            exact AtV.fin Try.func8 tabOk ext8Ok mixed (p8_4 x0 x1) ⟨trivial, b0, trivial, b1, trivial, b2, trivial, b3, trivial, b4, trivial⟩
          · try simp only [if_neg b4] at h ⊢
            replace b4 := Bool.eq_false_iff.2 b4
            by_cases b5 : (!g43_0 (Prod.fst (Prod.snd (Prod.snd (Prod.snd (Prod.snd (Prod.snd x0)))))) (Prod.fst (Prod.snd (Prod.snd (Prod.snd (Prod.snd (Prod.snd x1))))))) = true
            · try simp only [if_pos b5] at h ⊢
              exact AtV.fin Try.func8 tabOk ext8Ok mixed (p8_5 x0 x1) ⟨trivial, b0, trivial, b1, trivial, b2, trivial, b3, trivial, b4, trivial, b5, trivial⟩
            · try simp only [if_neg b5] at h ⊢
              replace b5 := Bool.eq_false_iff.2 b5
              by_cases b6 : (!g44_0 (Prod.fst (Prod.snd (Prod.snd (Prod.snd (Prod.snd (Prod.snd (Prod.snd x0))))))) (Prod.fst (Prod.snd (Prod.snd (Prod.snd (Prod.snd (Prod.snd (Prod.snd x1)))))))) = true
              · try simp only [if_pos b6] at h ⊢
                exact AtV.fin Try.func8 tabOk ext8Ok mixed (p8_6 x0 x1) ⟨trivial, b0, trivial, b1, trivial, b2, trivial, b3, trivial, b4, trivial, b5, trivial, b6, trivial⟩
              · try simp only [if_neg b6] at h ⊢
                replace b6 := Bool.eq_false_iff.2 b6
                by_cases b7 : (!g45_0 (Prod.fst (Prod.snd (Prod.snd (Prod.snd (Prod.snd (Prod.snd (Prod.snd (Prod.snd x0)))))))) (Prod.fst (Prod.snd (Prod.snd (Prod.snd (Prod.snd (Prod.snd (Prod.snd (Prod.snd x1))))))))) = true
                · try simp only [if_pos b7] at h ⊢
                  exact AtV.fin Try.func8 tabOk ext8Ok mixed (p8_7 x0 x1) ⟨trivial, b0, trivial, b1, trivial, b2, trivial, b3, trivial, b4, trivial, b5, trivial, b6, trivial, b7, trivial⟩
                · try simp only [if_neg b7] at h ⊢
                  replace b7 := Bool.eq_false_iff.2 b7
                  by_cases b8 : (!g46_0 (Prod.fst (Prod.snd (Prod.snd (Prod.snd (Prod.snd (Prod.snd (Prod.snd (Prod.snd (Prod.snd x0))))))))) (Prod.fst (Prod.snd (Prod.snd (Prod.snd (Prod.snd (Prod.snd (Prod.snd (Prod.snd (Prod.snd x1)))))))))) = true
                  · try simp only [if_pos b8] at h ⊢
                    exact AtV.fin Try.func8 tabOk ext8Ok mixed (p8_8 x0 x1) ⟨trivial, b0, trivial, b1, trivial, b2, trivial, b3, trivial, b4, trivial, b5, trivial, b6, trivial, b7, trivial, b8, trivial⟩
                  · try simp only [if_neg b8] at h ⊢
                    replace b8 := Bool.eq_false_iff.2 b8
                    by_cases b9 : (!g47_0 (Prod.fst (Prod.snd (Prod.snd (Prod.snd (Prod.snd (Prod.snd (Prod.snd (Prod.snd (Prod.snd (Prod.snd x0)))))))))) (Prod.fst (Prod.snd (Prod.snd (Prod.snd (Prod.snd (Prod.snd (Prod.snd (Prod.snd (Prod.snd (Prod.snd x1))))))))))) = true
                    · try simp only [if_pos b9] at h ⊢
                      exact AtV.fin Try.func8 tabOk ext8Ok mixed (p8_9 x0 x1) ⟨trivial, b0, trivial, b1, trivial, b2, trivial, b3, trivial, b4, trivial, b5, trivial, b6, trivial, b7, trivial, b8, trivial, b9, trivial⟩
                    · try simp only [if_neg b9] at h ⊢
                      replace b9 := Bool.eq_false_iff.2 b9
                      by_cases b10 : (!g48_0 (Prod.fst (Prod.snd (Prod.snd (Prod.snd (Prod.snd (Prod.snd (Prod.snd (Prod.snd (Prod.snd (Prod.snd (Prod.snd x0))))))))))) (Prod.fst (Prod.snd (Prod.snd (Prod.snd (Prod.snd (Prod.snd (Prod.snd (Prod.snd (Prod.snd (Prod.snd (Prod.snd x1)))))))))))) = true
                      · try simp only [if_pos b10] at h ⊢
                        exact AtV.fin Try.func8 tabOk ext8Ok mixed (p8_10 x0 x1) ⟨trivial, b0, trivial, b1, trivial, b2, trivial, b3, trivial, b4, trivial, b5, trivial, b6, trivial, b7, trivial, b8, trivial, b9, trivial, b10, trivial⟩
                      · try simp only [if_neg b10] at h ⊢
                        replace b10 := Bool.eq_false_iff.2 b10
                        by_cases b11 : (!g49_0 (Prod.fst (Prod.snd (Prod.snd (Prod.snd (Prod.snd (Prod.snd (Prod.snd (Prod.snd (Prod.snd (Prod.snd (Prod.snd (Prod.snd x0)))))))))))) (Prod.fst (Prod.snd (Prod.snd (Prod.snd (Prod.snd (Prod.snd (Prod.snd (Prod.snd (Prod.snd (Prod.snd (Prod.snd (Prod.snd x1))))))))))))) = true
                        · try simp only [if_pos b11] at h ⊢
                          exact AtV.fin Try.func8 tabOk ext8Ok mixed (p8_11 x0 x1) ⟨trivial, b0, trivial, b1, trivial, b2, trivial, b3, trivial, b4, trivial, b5, trivial, b6, trivial, b7, trivial, b8, trivial, b9, trivial, b10, trivial, b11, trivial⟩
                        · try simp only [if_neg b11] at h ⊢
                          replace b11 := Bool.eq_false_iff.2 b11
                          exact AtV.fin Try.func8 tabOk ext8Ok mixed (p8_12 x0 x1) ⟨trivial, b0, trivial, b1, trivial, b2, trivial, b3, trivial, b4, trivial, b5, trivial, b6, trivial, b7, trivial, b8, trivial, b9, trivial, b10, trivial, b11, trivial⟩

def S8 : Am.Spec := { sig := sig8, pre := fun ⟨x0, x1, _⟩ => P8 x0 x1, res := fun ⟨x0, x1, _⟩ => [⟨Ty.bool, g8_0 x0 x1⟩], kds := kds8 }
theorem con8 : Contract Try.prog 8 S8 := contract_of Try.func8 hb8 (Nat.le_of_ble_eq_true (by kernel_rfl)) (fun ⟨x0, x1, _⟩ h _ K q => at8 x0 x1 h K q)


end Go.Proofs.Ytpcfcplggpchjaa

/- Function 3 (laws.FnExactSameDesk): its runs between cut points. Written by a program of this repo (gen). -/
set_option linter.unusedVariables false
set_option linter.unusedSimpArgs false
set_option maxRecDepth 100000
namespace Go.Proofs.Ytpcfcplggpchjaa
open Go Go.Am Go.Proofs
def ext3 : Ext := [(4, S4), (6, S6), (5, S5), (7, S7), (8, S8)]
theorem call3_4 : Callable Try.prog 4 := ⟨Try.f4, Try.func4, by kernel_rfl, by kernel_rfl⟩
theorem call3_6 : Callable Try.prog 6 := ⟨Try.f6, Try.func6, by kernel_rfl, by kernel_rfl⟩
theorem call3_5 : Callable Try.prog 5 := ⟨Try.f5, Try.func5, by kernel_rfl, by kernel_rfl⟩
theorem call3_7 : Callable Try.prog 7 := ⟨Try.f7, Try.func7, by kernel_rfl, by kernel_rfl⟩
theorem call3_8 : Callable Try.prog 8 := ⟨Try.f8, Try.func8, by kernel_rfl, by kernel_rfl⟩
theorem ext3Ok : ExtOk Try.prog ext3 := ⟨⟨call3_4, con4⟩, ⟨call3_6, con6⟩, ⟨call3_5, con5⟩, ⟨call3_7, con7⟩, ⟨call3_8, con8⟩, trivial⟩

noncomputable def b3 : Code := bodyOf Try.f3
theorem hb3 : Try.f3.body = some b3 := by kernel_rfl
def sig3 : List AT := [AT.v (Ty.cons (Ty.sl (Ty.cons Ty.str (Ty.cons (Ty.int IntKind.i64) (Ty.cons (Ty.int IntKind.i64) (Ty.cons (Ty.int IntKind.i64) Ty.unit))))) (Ty.cons (Ty.cons (Ty.int IntKind.i64) (Ty.cons (Ty.int IntKind.i64) (Ty.cons (Ty.int IntKind.i64) (Ty.cons (Ty.int IntKind.i64) Ty.unit)))) (Ty.cons (Ty.sl (Ty.cons (Ty.int IntKind.i64) (Ty.cons (Ty.int IntKind.i64) (Ty.cons (Ty.int IntKind.i64) Ty.unit)))) (Ty.cons (Ty.sl (Ty.cons (Ty.int IntKind.i64) (Ty.cons (Ty.int IntKind.i64) (Ty.cons (Ty.int IntKind.i64) Ty.unit)))) (Ty.cons (Ty.cons (Ty.int IntKind.i64) (Ty.cons (Ty.int IntKind.i64) (Ty.cons (Ty.int IntKind.i64) Ty.unit))) (Ty.cons (Ty.cons (Ty.int IntKind.i64) (Ty.cons (Ty.int IntKind.i64) (Ty.cons (Ty.int IntKind.i64) Ty.unit))) (Ty.cons (Ty.sl (Ty.cons Ty.str (Ty.cons (Ty.int IntKind.i64) (Ty.cons (Ty.int IntKind.i64) Ty.unit)))) (Ty.cons (Ty.cons (Ty.int IntKind.i64) (Ty.cons (Ty.int IntKind.i64) (Ty.cons (Ty.int IntKind.i64) (Ty.cons (Ty.int IntKind.i64) Ty.unit)))) (Ty.cons (Ty.sl (Ty.cons Ty.str (Ty.cons (Ty.int IntKind.i64) (Ty.cons (Ty.int IntKind.i64) (Ty.cons (Ty.int IntKind.i64) Ty.unit))))) (Ty.cons (Ty.sl (Ty.cons (Ty.int IntKind.i64) (Ty.cons (Ty.int IntKind.i64) (Ty.cons (Ty.int IntKind.i64) Ty.unit)))) (Ty.cons (Ty.sl (Ty.cons Ty.str (Ty.cons (Ty.int IntKind.i64) (Ty.cons (Ty.int IntKind.i64) Ty.unit)))) (Ty.cons (Ty.sl (Ty.cons Ty.str (Ty.cons (Ty.int IntKind.i64) (Ty.cons (Ty.int IntKind.i64) Ty.unit)))) Ty.unit)))))))))))), AT.v (Ty.cons (Ty.sl (Ty.cons Ty.str (Ty.cons (Ty.int IntKind.i64) (Ty.cons (Ty.int IntKind.i64) (Ty.cons (Ty.int IntKind.i64) Ty.unit))))) (Ty.cons (Ty.cons (Ty.int IntKind.i64) (Ty.cons (Ty.int IntKind.i64) (Ty.cons (Ty.int IntKind.i64) (Ty.cons (Ty.int IntKind.i64) Ty.unit)))) (Ty.cons (Ty.sl (Ty.cons (Ty.int IntKind.i64) (Ty.cons (Ty.int IntKind.i64) (Ty.cons (Ty.int IntKind.i64) Ty.unit)))) (Ty.cons (Ty.sl (Ty.cons (Ty.int IntKind.i64) (Ty.cons (Ty.int IntKind.i64) (Ty.cons (Ty.int IntKind.i64) Ty.unit)))) (Ty.cons (Ty.cons (Ty.int IntKind.i64) (Ty.cons (Ty.int IntKind.i64) (Ty.cons (Ty.int IntKind.i64) Ty.unit))) (Ty.cons (Ty.cons (Ty.int IntKind.i64) (Ty.cons (Ty.int IntKind.i64) (Ty.cons (Ty.int IntKind.i64) Ty.unit))) (Ty.cons (Ty.sl (Ty.cons Ty.str (Ty.cons (Ty.int IntKind.i64) (Ty.cons (Ty.int IntKind.i64) Ty.unit)))) (Ty.cons (Ty.cons (Ty.int IntKind.i64) (Ty.cons (Ty.int IntKind.i64) (Ty.cons (Ty.int IntKind.i64) (Ty.cons (Ty.int IntKind.i64) Ty.unit)))) (Ty.cons (Ty.sl (Ty.cons Ty.str (Ty.cons (Ty.int IntKind.i64) (Ty.cons (Ty.int IntKind.i64) (Ty.cons (Ty.int IntKind.i64) Ty.unit))))) (Ty.cons (Ty.sl (Ty.cons (Ty.int IntKind.i64) (Ty.cons (Ty.int IntKind.i64) (Ty.cons (Ty.int IntKind.i64) Ty.unit)))) (Ty.cons (Ty.sl (Ty.cons Ty.str (Ty.cons (Ty.int IntKind.i64) (Ty.cons (Ty.int IntKind.i64) Ty.unit)))) (Ty.cons (Ty.sl (Ty.cons Ty.str (Ty.cons (Ty.int IntKind.i64) (Ty.cons (Ty.int IntKind.i64) Ty.unit)))) Ty.unit))))))))))))]
def tys3 : List Ty := [Ty.bool]
def kds3 : List RK := []
def oks3 : List AT := owns sig3
def P3 (x0 : TyA0) (x1 : TyA0) : Prop := ((P4 x0 1048576) ∧ (if (Decidable.decide (g4_0 x0 1048576 < 0)) = true then True else ((P4 x1 (g4_0 x0 1048576)) ∧ (if (Decidable.decide (g4_0 x1 (g4_0 x0 1048576) < 0)) = true then True else ((P6 x0) ∧ ((P6 x1) ∧ ((P6 x0) ∧ ((P6 x1) ∧ (if (!g7_0 (Prod.fst (g6_0 x0), (Prod.fst (Prod.fst (Prod.snd (g6_0 x0))), Prod.fst (Prod.snd (Prod.fst (Prod.snd (g6_0 x0)))), Prod.fst (Prod.snd (Prod.snd (Prod.fst (Prod.snd (g6_0 x0))))), Prod.fst (Prod.snd (Prod.snd (Prod.snd (Prod.fst (Prod.snd (g6_0 x0)))))), ()), Prod.fst (Prod.snd (Prod.snd (g6_0 x0))), Prod.fst (Prod.snd (Prod.snd (Prod.snd (g6_0 x0)))), (Prod.fst (Prod.fst (Prod.snd (Prod.snd (Prod.snd (Prod.snd (g6_0 x0)))))), Prod.fst (Prod.snd (Prod.fst (Prod.snd (Prod.snd (Prod.snd (Prod.snd (g6_0 x0))))))), Prod.fst (Prod.snd (Prod.snd (Prod.fst (Prod.snd (Prod.snd (Prod.snd (Prod.snd (g6_0 x0)))))))), ()), (Prod.fst (Prod.fst (Prod.snd (Prod.snd (Prod.snd (Prod.snd (Prod.snd (g6_0 x0))))))), Prod.fst (Prod.snd (Prod.fst (Prod.snd (Prod.snd (Prod.snd (Prod.snd (Prod.snd (g6_0 x0)))))))), Prod.fst (Prod.snd (Prod.snd (Prod.fst (Prod.snd (Prod.snd (Prod.snd (Prod.snd (Prod.snd (g6_0 x0))))))))), ()), Prod.fst (Prod.snd (Prod.snd (Prod.snd (Prod.snd (Prod.snd (Prod.snd (g6_0 x0))))))), (Prod.fst (Prod.fst (Prod.snd (Prod.snd (Prod.snd (Prod.snd (Prod.snd (Prod.snd (Prod.snd (g6_0 x0))))))))), Prod.fst (Prod.snd (Prod.fst (Prod.snd (Prod.snd (Prod.snd (Prod.snd (Prod.snd (Prod.snd (Prod.snd (g6_0 x0)))))))))), Prod.fst (Prod.snd (Prod.snd (Prod.fst (Prod.snd (Prod.snd (Prod.snd (Prod.snd (Prod.snd (Prod.snd (Prod.snd (g6_0 x0))))))))))), Prod.fst (Prod.snd (Prod.snd (Prod.snd (Prod.fst (Prod.snd (Prod.snd (Prod.snd (Prod.snd (Prod.snd (Prod.snd (Prod.snd (g6_0 x0)))))))))))), ()), Prod.fst (Prod.snd (Prod.snd (Prod.snd (Prod.snd (Prod.snd (Prod.snd (Prod.snd (Prod.snd (g6_0 x0))))))))), Prod.fst (Prod.snd (Prod.snd (Prod.snd (Prod.snd (Prod.snd (Prod.snd (Prod.snd (Prod.snd (Prod.snd (g6_0 x0)))))))))), Prod.fst (Prod.snd (Prod.snd (Prod.snd (Prod.snd (Prod.snd (Prod.snd (Prod.snd (Prod.snd (Prod.snd (Prod.snd (g6_0 x0))))))))))), Prod.fst (Prod.snd (Prod.snd (Prod.snd (Prod.snd (Prod.snd (Prod.snd (Prod.snd (Prod.snd (Prod.snd (Prod.snd (Prod.snd (g6_0 x0)))))))))))), ()) (Prod.fst (g6_0 x1), (Prod.fst (Prod.fst (Prod.snd (g6_0 x1))), Prod.fst (Prod.snd (Prod.fst (Prod.snd (g6_0 x1)))), Prod.fst (Prod.snd (Prod.snd (Prod.fst (Prod.snd (g6_0 x1))))), Prod.fst (Prod.snd (Prod.snd (Prod.snd (Prod.fst (Prod.snd (g6_0 x1)))))), ()), Prod.fst (Prod.snd (Prod.snd (g6_0 x1))), Prod.fst (Prod.snd (Prod.snd (Prod.snd (g6_0 x1)))), (Prod.fst (Prod.fst (Prod.snd (Prod.snd (Prod.snd (Prod.snd (g6_0 x1)))))), Prod.fst (Prod.snd (Prod.fst (Prod.snd (Prod.snd (Prod.snd (Prod.snd (g6_0 x1))))))), Prod.fst (Prod.snd (Prod.snd (Prod.fst (Prod.snd (Prod.snd (Prod.snd (Prod.snd (g6_0 x1)))))))), ()), (Prod.fst (Prod.fst (Prod.snd (Prod.snd (Prod.snd (Prod.snd (Prod.snd (g6_0 x1))))))), Prod.fst (Prod.snd (Prod.fst (Prod.snd (Prod.snd (Prod.snd (Prod.snd (Prod.snd (g6_0 x1)))))))), Prod.fst (Prod.snd (Prod.snd (Prod.fst (Prod.snd (Prod.snd (Prod.snd (Prod.snd (Prod.snd (g6_0 x1))))))))), ()), Prod.fst (Prod.snd (Prod.snd (Prod.snd (Prod.snd (Prod.snd (Prod.snd (g6_0 x1))))))), (Prod.fst (Prod.fst (Prod.snd (Prod.snd (Prod.snd (Prod.snd (Prod.snd (Prod.snd (Prod.snd (g6_0 x1))))))))), Prod.fst (Prod.snd (Prod.fst (Prod.snd (Prod.snd (Prod.snd (Prod.snd (Prod.snd (Prod.snd (Prod.snd (g6_0 x1)))))))))), Prod.fst (Prod.snd (Prod.snd (Prod.fst (Prod.snd (Prod.snd (Prod.snd (Prod.snd (Prod.snd (Prod.snd (Prod.snd (g6_0 x1))))))))))), Prod.fst (Prod.snd (Prod.snd (Prod.snd (Prod.fst (Prod.snd (Prod.snd (Prod.snd (Prod.snd (Prod.snd (Prod.snd (Prod.snd (g6_0 x1)))))))))))), ()), Prod.fst (Prod.snd (Prod.snd (Prod.snd (Prod.snd (Prod.snd (Prod.snd (Prod.snd (Prod.snd (g6_0 x1))))))))), Prod.fst (Prod.snd (Prod.snd (Prod.snd (Prod.snd (Prod.snd (Prod.snd (Prod.snd (Prod.snd (Prod.snd (g6_0 x1)))))))))), Prod.fst (Prod.snd (Prod.snd (Prod.snd (Prod.snd (Prod.snd (Prod.snd (Prod.snd (Prod.snd (Prod.snd (Prod.snd (g6_0 x1))))))))))), Prod.fst (Prod.snd (Prod.snd (Prod.snd (Prod.snd (Prod.snd (Prod.snd (Prod.snd (Prod.snd (Prod.snd (Prod.snd (Prod.snd (g6_0 x1)))))))))))), ()) == g5_0 (g6_0 x0) (g6_0 x1)) = true then True else ((P6 x0) ∧ (if (!g8_0 (Prod.fst (g6_0 x0), (Prod.fst (Prod.fst (Prod.snd (g6_0 x0))), Prod.fst (Prod.snd (Prod.fst (Prod.snd (g6_0 x0)))), Prod.fst (Prod.snd (Prod.snd (Prod.fst (Prod.snd (g6_0 x0))))), Prod.fst (Prod.snd (Prod.snd (Prod.snd (Prod.fst (Prod.snd (g6_0 x0)))))), ()), Prod.fst (Prod.snd (Prod.snd (g6_0 x0))), Prod.fst (Prod.snd (Prod.snd (Prod.snd (g6_0 x0)))), (Prod.fst (Prod.fst (Prod.snd (Prod.snd (Prod.snd (Prod.snd (g6_0 x0)))))), Prod.fst (Prod.snd (Prod.fst (Prod.snd (Prod.snd (Prod.snd (Prod.snd (g6_0 x0))))))), Prod.fst (Prod.snd (Prod.snd (Prod.fst (Prod.snd (Prod.snd (Prod.snd (Prod.snd (g6_0 x0)))))))), ()), (Prod.fst (Prod.fst (Prod.snd (Prod.snd (Prod.snd (Prod.snd (Prod.snd (g6_0 x0))))))), Prod.fst (Prod.snd (Prod.fst (Prod.snd (Prod.snd (Prod.snd (Prod.snd (Prod.snd (g6_0 x0)))))))), Prod.fst (Prod.snd (Prod.snd (Prod.fst (Prod.snd (Prod.snd (Prod.snd (Prod.snd (Prod.snd (g6_0 x0))))))))), ()), Prod.fst (Prod.snd (Prod.snd (Prod.snd (Prod.snd (Prod.snd (Prod.snd (g6_0 x0))))))), (Prod.fst (Prod.fst (Prod.snd (Prod.snd (Prod.snd (Prod.snd (Prod.snd (Prod.snd (Prod.snd (g6_0 x0))))))))), Prod.fst (Prod.snd (Prod.fst (Prod.snd (Prod.snd (Prod.snd (Prod.snd (Prod.snd (Prod.snd (Prod.snd (g6_0 x0)))))))))), Prod.fst (Prod.snd (Prod.snd (Prod.fst (Prod.snd (Prod.snd (Prod.snd (Prod.snd (Prod.snd (Prod.snd (Prod.snd (g6_0 x0))))))))))), Prod.fst (Prod.snd (Prod.snd (Prod.snd (Prod.fst (Prod.snd (Prod.snd (Prod.snd (Prod.snd (Prod.snd (Prod.snd (Prod.snd (g6_0 x0)))))))))))), ()), Prod.fst (Prod.snd (Prod.snd (Prod.snd (Prod.snd (Prod.snd (Prod.snd (Prod.snd (Prod.snd (g6_0 x0))))))))), Prod.fst (Prod.snd (Prod.snd (Prod.snd (Prod.snd (Prod.snd (Prod.snd (Prod.snd (Prod.snd (Prod.snd (g6_0 x0)))))))))), Prod.fst (Prod.snd (Prod.snd (Prod.snd (Prod.snd (Prod.snd (Prod.snd (Prod.snd (Prod.snd (Prod.snd (Prod.snd (g6_0 x0))))))))))), Prod.fst (Prod.snd (Prod.snd (Prod.snd (Prod.snd (Prod.snd (Prod.snd (Prod.snd (Prod.snd (Prod.snd (Prod.snd (Prod.snd (g6_0 x0)))))))))))), ()) (g6_0 x0)) = true then True else ((P6 x1) ∧ True))))))))))))
def g3_0 (x0 : TyA0) (x1 : TyA0) : Bool := (if (Decidable.decide (g4_0 x0 1048576 < 0)) = true then Bool.true else (if (Decidable.decide (g4_0 x1 (g4_0 x0 1048576) < 0)) = true then Bool.true else (if (!g7_0 (Prod.fst (g6_0 x0), (Prod.fst (Prod.fst (Prod.snd (g6_0 x0))), Prod.fst (Prod.snd (Prod.fst (Prod.snd (g6_0 x0)))), Prod.fst (Prod.snd (Prod.snd (Prod.fst (Prod.snd (g6_0 x0))))), Prod.fst (Prod.snd (Prod.snd (Prod.snd (Prod.fst (Prod.snd (g6_0 x0)))))), ()), Prod.fst (Prod.snd (Prod.snd (g6_0 x0))), Prod.fst (Prod.snd (Prod.snd (Prod.snd (g6_0 x0)))), (Prod.fst (Prod.fst (Prod.snd (Prod.snd (Prod.snd (Prod.snd (g6_0 x0)))))), Prod.fst (Prod.snd (Prod.fst (Prod.snd (Prod.snd (Prod.snd (Prod.snd (g6_0 x0))))))), Prod.fst (Prod.snd (Prod.snd (Prod.fst (Prod.snd (Prod.snd (Prod.snd (Prod.snd (g6_0 x0)))))))), ()), (Prod.fst (Prod.fst (Prod.snd (Prod.snd (Prod.snd (Prod.snd (Prod.snd (g6_0 x0))))))), Prod.fst (Prod.snd (Prod.fst (Prod.snd (Prod.snd (Prod.snd (Prod.snd (Prod.snd (g6_0 x0)))))))), Prod.fst (Prod.snd (Prod.snd (Prod.fst (Prod.snd (Prod.snd (Prod.snd (Prod.snd (Prod.snd (g6_0 x0))))))))), ()), Prod.fst (Prod.snd (Prod.snd (Prod.snd (Prod.snd (Prod.snd (Prod.snd (g6_0 x0))))))), (Prod.fst (Prod.fst (Prod.snd (Prod.snd (Prod.snd (Prod.snd (Prod.snd (Prod.snd (Prod.snd (g6_0 x0))))))))), Prod.fst (Prod.snd (Prod.fst (Prod.snd (Prod.snd (Prod.snd (Prod.snd (Prod.snd (Prod.snd (Prod.snd (g6_0 x0)))))))))), Prod.fst (Prod.snd (Prod.snd (Prod.fst (Prod.snd (Prod.snd (Prod.snd (Prod.snd (Prod.snd (Prod.snd (Prod.snd (g6_0 x0))))))))))), Prod.fst (Prod.snd (Prod.snd (Prod.snd (Prod.fst (Prod.snd (Prod.snd (Prod.snd (Prod.snd (Prod.snd (Prod.snd (Prod.snd (g6_0 x0)))))))))))), ()), Prod.fst (Prod.snd (Prod.snd (Prod.snd (Prod.snd (Prod.snd (Prod.snd (Prod.snd (Prod.snd (g6_0 x0))))))))), Prod.fst (Prod.snd (Prod.snd (Prod.snd (Prod.snd (Prod.snd (Prod.snd (Prod.snd (Prod.snd (Prod.snd (g6_0 x0)))))))))), Prod.fst (Prod.snd (Prod.snd (Prod.snd (Prod.snd (Prod.snd (Prod.snd (Prod.snd (Prod.snd (Prod.snd (Prod.snd (g6_0 x0))))))))))), Prod.fst (Prod.snd (Prod.snd (Prod.snd (Prod.snd (Prod.snd (Prod.snd (Prod.snd (Prod.snd (Prod.snd (Prod.snd (Prod.snd (g6_0 x0)))))))))))), ()) (Prod.fst (g6_0 x1), (Prod.fst (Prod.fst (Prod.snd (g6_0 x1))), Prod.fst (Prod.snd (Prod.fst (Prod.snd (g6_0 x1)))), Prod.fst (Prod.snd (Prod.snd (Prod.fst (Prod.snd (g6_0 x1))))), Prod.fst (Prod.snd (Prod.snd (Prod.snd (Prod.fst (Prod.snd (g6_0 x1)))))), ()), Prod.fst (Prod.snd (Prod.snd (g6_0 x1))), Prod.fst (Prod.snd (Prod.snd (Prod.snd (g6_0 x1)))), (Prod.fst (Prod.fst (Prod.snd (Prod.snd (Prod.snd (Prod.snd (g6_0 x1)))))), Prod.fst (Prod.snd (Prod.fst (Prod.snd (Prod.snd (Prod.snd (Prod.snd (g6_0 x1))))))), Prod.fst (Prod.snd (Prod.snd (Prod.fst (Prod.snd (Prod.snd (Prod.snd (Prod.snd (g6_0 x1)))))))), ()), (Prod.fst (Prod.fst (Prod.snd (Prod.snd (Prod.snd (Prod.snd (Prod.snd (g6_0 x1))))))), Prod.fst (Prod.snd (Prod.fst (Prod.snd (Prod.snd (Prod.snd (Prod.snd (Prod.snd (g6_0 x1)))))))), Prod.fst (Prod.snd (Prod.snd (Prod.fst (Prod.snd (Prod.snd (Prod.snd (Prod.snd (Prod.snd (g6_0 x1))))))))), ()), Prod.fst (Prod.snd (Prod.snd (Prod.snd (Prod.snd (Prod.snd (Prod.snd (g6_0 x1))))))), (Prod.fst (Prod.fst (Prod.snd (Prod.snd (Prod.snd (Prod.snd (Prod.snd (Prod.snd (Prod.snd (g6_0 x1))))))))), Prod.fst (Prod.snd (Prod.fst (Prod.snd (Prod.snd (Prod.snd (Prod.snd (Prod.snd (Prod.snd (Prod.snd (g6_0 x1)))))))))), Prod.fst (Prod.snd (Prod.snd (Prod.fst (Prod.snd (Prod.snd (Prod.snd (Prod.snd (Prod.snd (Prod.snd (Prod.snd (g6_0 x1))))))))))), Prod.fst (Prod.snd (Prod.snd (Prod.snd (Prod.fst (Prod.snd (Prod.snd (Prod.snd (Prod.snd (Prod.snd (Prod.snd (Prod.snd (g6_0 x1)))))))))))), ()), Prod.fst (Prod.snd (Prod.snd (Prod.snd (Prod.snd (Prod.snd (Prod.snd (Prod.snd (Prod.snd (g6_0 x1))))))))), Prod.fst (Prod.snd (Prod.snd (Prod.snd (Prod.snd (Prod.snd (Prod.snd (Prod.snd (Prod.snd (Prod.snd (g6_0 x1)))))))))), Prod.fst (Prod.snd (Prod.snd (Prod.snd (Prod.snd (Prod.snd (Prod.snd (Prod.snd (Prod.snd (Prod.snd (Prod.snd (g6_0 x1))))))))))), Prod.fst (Prod.snd (Prod.snd (Prod.snd (Prod.snd (Prod.snd (Prod.snd (Prod.snd (Prod.snd (Prod.snd (Prod.snd (Prod.snd (g6_0 x1)))))))))))), ()) == g5_0 (g6_0 x0) (g6_0 x1)) = true then Bool.false else (if (!g8_0 (Prod.fst (g6_0 x0), (Prod.fst (Prod.fst (Prod.snd (g6_0 x0))), Prod.fst (Prod.snd (Prod.fst (Prod.snd (g6_0 x0)))), Prod.fst (Prod.snd (Prod.snd (Prod.fst (Prod.snd (g6_0 x0))))), Prod.fst (Prod.snd (Prod.snd (Prod.snd (Prod.fst (Prod.snd (g6_0 x0)))))), ()), Prod.fst (Prod.snd (Prod.snd (g6_0 x0))), Prod.fst (Prod.snd (Prod.snd (Prod.snd (g6_0 x0)))), (Prod.fst (Prod.fst (Prod.snd (Prod.snd (Prod.snd (Prod.snd (g6_0 x0)))))), Prod.fst (Prod.snd (Prod.fst (Prod.snd (Prod.snd (Prod.snd (Prod.snd (g6_0 x0))))))), Prod.fst (Prod.snd (Prod.snd (Prod.fst (Prod.snd (Prod.snd (Prod.snd (Prod.snd (g6_0 x0)))))))), ()), (Prod.fst (Prod.fst (Prod.snd (Prod.snd (Prod.snd (Prod.snd (Prod.snd (g6_0 x0))))))), Prod.fst (Prod.snd (Prod.fst (Prod.snd (Prod.snd (Prod.snd (Prod.snd (Prod.snd (g6_0 x0)))))))), Prod.fst (Prod.snd (Prod.snd (Prod.fst (Prod.snd (Prod.snd (Prod.snd (Prod.snd (Prod.snd (g6_0 x0))))))))), ()), Prod.fst (Prod.snd (Prod.snd (Prod.snd (Prod.snd (Prod.snd (Prod.snd (g6_0 x0))))))), (Prod.fst (Prod.fst (Prod.snd (Prod.snd (Prod.snd (Prod.snd (Prod.snd (Prod.snd (Prod.snd (g6_0 x0))))))))), Prod.fst (Prod.snd (Prod.fst (Prod.snd (Prod.snd (Prod.snd (Prod.snd (Prod.snd (Prod.snd (Prod.snd (g6_0 x0)))))))))), Prod.fst (Prod.snd (Prod.snd (Prod.fst (Prod.snd (Prod.snd (Prod.snd (Prod.snd (Prod.snd (Prod.snd (Prod.snd (g6_0 x0))))))))))), Prod.fst (Prod.snd (Prod.snd (Prod.snd (Prod.fst (Prod.snd (Prod.snd (Prod.snd (Prod.snd (Prod.snd (Prod.snd (Prod.snd (g6_0 x0)))))))))))), ()), Prod.fst (Prod.snd (Prod.snd (Prod.snd (Prod.snd (Prod.snd (Prod.snd (Prod.snd (Prod.snd (g6_0 x0))))))))), Prod.fst (Prod.snd (Prod.snd (Prod.snd (Prod.snd (Prod.snd (Prod.snd (Prod.snd (Prod.snd (Prod.snd (g6_0 x0)))))))))), Prod.fst (Prod.snd (Prod.snd (Prod.snd (Prod.snd (Prod.snd (Prod.snd (Prod.snd (Prod.snd (Prod.snd (Prod.snd (g6_0 x0))))))))))), Prod.fst (Prod.snd (Prod.snd (Prod.snd (Prod.snd (Prod.snd (Prod.snd (Prod.snd (Prod.snd (Prod.snd (Prod.snd (Prod.snd (g6_0 x0)))))))))))), ()) (g6_0 x0)) = true then Bool.false else (if (!g8_0 (Prod.fst (g6_0 x1), (Prod.fst (Prod.fst (Prod.snd (g6_0 x1))), Prod.fst (Prod.snd (Prod.fst (Prod.snd (g6_0 x1)))), Prod.fst (Prod.snd (Prod.snd (Prod.fst (Prod.snd (g6_0 x1))))), Prod.fst (Prod.snd (Prod.snd (Prod.snd (Prod.fst (Prod.snd (g6_0 x1)))))), ()), Prod.fst (Prod.snd (Prod.snd (g6_0 x1))), Prod.fst (Prod.snd (Prod.snd (Prod.snd (g6_0 x1)))), (Prod.fst (Prod.fst (Prod.snd (Prod.snd (Prod.snd (Prod.snd (g6_0 x1)))))), Prod.fst (Prod.snd (Prod.fst (Prod.snd (Prod.snd (Prod.snd (Prod.snd (g6_0 x1))))))), Prod.fst (Prod.snd (Prod.snd (Prod.fst (Prod.snd (Prod.snd (Prod.snd (Prod.snd (g6_0 x1)))))))), ()), (Prod.fst (Prod.fst (Prod.snd (Prod.snd (Prod.snd (Prod.snd (Prod.snd (g6_0 x1))))))), Prod.fst (Prod.snd (Prod.fst (Prod.snd (Prod.snd (Prod.snd (Prod.snd (Prod.snd (g6_0 x1)))))))), Prod.fst (Prod.snd (Prod.snd (Prod.fst (Prod.snd (Prod.snd (Prod.snd (Prod.snd (Prod.snd (g6_0 x1))))))))), ()), Prod.fst (Prod.snd (Prod.snd (Prod.snd (Prod.snd (Prod.snd (Prod.snd (g6_0 x1))))))), (Prod.fst (Prod.fst (Prod.snd (Prod.snd (Prod.snd (Prod.snd (Prod.snd (Prod.snd (Prod.snd (g6_0 x1))))))))), Prod.fst (Prod.snd (Prod.fst (Prod.snd (Prod.snd (Prod.snd (Prod.snd (Prod.snd (Prod.snd (Prod.snd (g6_0 x1)))))))))), Prod.fst (Prod.snd (Prod.snd (Prod.fst (Prod.snd (Prod.snd (Prod.snd (Prod.snd (Prod.snd (Prod.snd (Prod.snd (g6_0 x1))))))))))), Prod.fst (Prod.snd (Prod.snd (Prod.snd (Prod.fst (Prod.snd (Prod.snd (Prod.snd (Prod.snd (Prod.snd (Prod.snd (Prod.snd (g6_0 x1)))))))))))), ()), Prod.fst (Prod.snd (Prod.snd (Prod.snd (Prod.snd (Prod.snd (Prod.snd (Prod.snd (Prod.snd (g6_0 x1))))))))), Prod.fst (Prod.snd (Prod.snd (Prod.snd (Prod.snd (Prod.snd (Prod.snd (Prod.snd (Prod.snd (Prod.snd (g6_0 x1)))))))))), Prod.fst (Prod.snd (Prod.snd (Prod.snd (Prod.snd (Prod.snd (Prod.snd (Prod.snd (Prod.snd (Prod.snd (Prod.snd (g6_0 x1))))))))))), Prod.fst (Prod.snd (Prod.snd (Prod.snd (Prod.snd (Prod.snd (Prod.snd (Prod.snd (Prod.snd (Prod.snd (Prod.snd (Prod.snd (g6_0 x1)))))))))))), ()) (g6_0 x1)) = true then Bool.false else Bool.true)))))
theorem p3_0 (x0 : TyA0) (x1 : TyA0) : runF tab ext3 false 45 [] 2000 [] oks3 kds3 tys3 Try.f3.results [true] [.code b3] (entE 0 0 sig3 (x0, x1, ())) (entL sig3 (x0, x1, ())) = some ([Dyn.mk Ty.bool Bool.true], [], [P4 x0 1048576, Decidable.decide (g4_0 x0 1048576 < 0) = Bool.true]) := by kernel_rfl
theorem p3_1 (x0 : TyA0) (x1 : TyA0) : runF tab ext3 false 45 [] 2000 [] oks3 kds3 tys3 Try.f3.results [false, true] [.code b3] (entE 0 0 sig3 (x0, x1, ())) (entL sig3 (x0, x1, ())) = some ([Dyn.mk Ty.bool Bool.true], [], [P4 x0 1048576, Decidable.decide (g4_0 x0 1048576 < 0) = Bool.false, P4 x1 (g4_0 x0 1048576), Decidable.decide (g4_0 x1 (g4_0 x0 1048576) < 0) = Bool.true]) := by kernel_rfl
theorem p3_2 (x0 : TyA0) (x1 : TyA0) : runF tab ext3 false 45 [] 2000 [] oks3 kds3 tys3 Try.f3.results [false, false, true] [.code b3] (entE 0 0 sig3 (x0, x1, ())) (entL sig3 (x0, x1, ())) = some ([Dyn.mk Ty.bool Bool.false], [], [P4 x0 1048576, Decidable.decide (g4_0 x0 1048576 < 0) = Bool.false, P4 x1 (g4_0 x0 1048576), Decidable.decide (g4_0 x1 (g4_0 x0 1048576) < 0) = Bool.false, P6 x0, P6 x1, True, P6 x0, P6 x1, True, (!g7_0 (Prod.fst (g6_0 x0), (Prod.fst (Prod.fst (Prod.snd (g6_0 x0))), Prod.fst (Prod.snd (Prod.fst (Prod.snd (g6_0 x0)))), Prod.fst (Prod.snd (Prod.snd (Prod.fst (Prod.snd (g6_0 x0))))), Prod.fst (Prod.snd (Prod.snd (Prod.snd (Prod.fst (Prod.snd (g6_0 x0)))))), ()), Prod.fst (Prod.snd (Prod.snd (g6_0 x0))), Prod.fst (Prod.snd (Prod.snd (Prod.snd (g6_0 x0)))), (Prod.fst (Prod.fst (Prod.snd (Prod.snd (Prod.snd (Prod.snd (g6_0 x0)))))), Prod.fst (Prod.snd (Prod.fst (Prod.snd (Prod.snd (Prod.snd (Prod.snd (g6_0 x0))))))), Prod.fst (Prod.snd (Prod.snd (Prod.fst (Prod.snd (Prod.snd (Prod.snd (Prod.snd (g6_0 x0)))))))), ()), (Prod.fst (Prod.fst (Prod.snd (Prod.snd (Prod.snd (Prod.snd (Prod.snd (g6_0 x0))))))), Prod.fst (Prod.snd (Prod.fst (Prod.snd (Prod.snd (Prod.snd (Prod.snd (Prod.snd (g6_0 x0)))))))), Prod.fst (Prod.snd (Prod.snd (Prod.fst (Prod.snd (Prod.snd (Prod.snd (Prod.snd (Prod.snd (g6_0 x0))))))))), ()), Prod.fst (Prod.snd (Prod.snd (Prod.snd (Prod.snd (Prod.snd (Prod.snd (g6_0 x0))))))), (Prod.fst (Prod.fst (Prod.snd (Prod.snd (Prod.snd (Prod.snd (Prod.snd (Prod.snd (Prod.snd (g6_0 x0))))))))), Prod.fst (Prod.snd (Prod.fst (Prod.snd (Prod.snd (Prod.snd (Prod.snd (Prod.snd (Prod.snd (Prod.snd (g6_0 x0)))))))))), Prod.fst (Prod.snd (Prod.snd (Prod.fst (Prod.snd (Prod.snd (Prod.snd (Prod.snd (Prod.snd (Prod.snd (Prod.snd (g6_0 x0))))))))))), Prod.fst (Prod.snd (Prod.snd (Prod.snd (Prod.fst (Prod.snd (Prod.snd (Prod.snd (Prod.snd (Prod.snd (Prod.snd (Prod.snd (g6_0 x0)))))))))))), ()), Prod.fst (Prod.snd (Prod.snd (Prod.snd (Prod.snd (Prod.snd (Prod.snd (Prod.snd (Prod.snd (g6_0 x0))))))))), Prod.fst (Prod.snd (Prod.snd (Prod.snd (Prod.snd (Prod.snd (Prod.snd (Prod.snd (Prod.snd (Prod.snd (g6_0 x0)))))))))), Prod.fst (Prod.snd (Prod.snd (Prod.snd (Prod.snd (Prod.snd (Prod.snd (Prod.snd (Prod.snd (Prod.snd (Prod.snd (g6_0 x0))))))))))), Prod.fst (Prod.snd (Prod.snd (Prod.snd (Prod.snd (Prod.snd (Prod.snd (Prod.snd (Prod.snd (Prod.snd (Prod.snd (Prod.snd (g6_0 x0)))))))))))), ()) (Prod.fst (g6_0 x1), (Prod.fst (Prod.fst (Prod.snd (g6_0 x1))), Prod.fst (Prod.snd (Prod.fst (Prod.snd (g6_0 x1)))), Prod.fst (Prod.snd (Prod.snd (Prod.fst (Prod.snd (g6_0 x1))))), Prod.fst (Prod.snd (Prod.snd (Prod.snd (Prod.fst (Prod.snd (g6_0 x1)))))), ()), Prod.fst (Prod.snd (Prod.snd (g6_0 x1))), Prod.fst (Prod.snd (Prod.snd (Prod.snd (g6_0 x1)))), (Prod.fst (Prod.fst (Prod.snd (Prod.snd (Prod.snd (Prod.snd (g6_0 x1)))))), Prod.fst (Prod.snd (Prod.fst (Prod.snd (Prod.snd (Prod.snd (Prod.snd (g6_0 x1))))))), Prod.fst (Prod.snd (Prod.snd (Prod.fst (Prod.snd (Prod.snd (Prod.snd (Prod.snd (g6_0 x1)))))))), ()), (Prod.fst (Prod.fst (Prod.snd (Prod.snd (Prod.snd (Prod.snd (Prod.snd (g6_0 x1))))))), Prod.fst (Prod.snd (Prod.fst (Prod.snd (Prod.snd (Prod.snd (Prod.snd (Prod.snd (g6_0 x1)))))))), Prod.fst (Prod.snd (Prod.snd (Prod.fst (Prod.snd (Prod.snd (Prod.snd (Prod.snd (Prod.snd (g6_0 x1))))))))), ()), Prod.fst (Prod.snd (Prod.snd (Prod.snd (Prod.snd (Prod.snd (Prod.snd (g6_0 x1))))))), (Prod.fst (Prod.fst (Prod.snd (Prod.snd (Prod.snd (Prod.snd (Prod.snd (Prod.snd (Prod.snd (g6_0 x1))))))))), Prod.fst (Prod.snd (Prod.fst (Prod.snd (Prod.snd (Prod.snd (Prod.snd (Prod.snd (Prod.snd (Prod.snd (g6_0 x1)))))))))), Prod.fst (Prod.snd (Prod.snd (Prod.fst (Prod.snd (Prod.snd (Prod.snd (Prod.snd (Prod.snd (Prod.snd (Prod.snd (g6_0 x1))))))))))), Prod.fst (Prod.snd (Prod.snd (Prod.snd (Prod.fst (Prod.snd (Prod.snd (Prod.snd (Prod.snd (Prod.snd (Prod.snd (Prod.snd (g6_0 x1)))))))))))), ()), Prod.fst (Prod.snd (Prod.snd (Prod.snd (Prod.snd (Prod.snd (Prod.snd (Prod.snd (Prod.snd (g6_0 x1))))))))), Prod.fst (Prod.snd (Prod.snd (Prod.snd (Prod.snd (Prod.snd (Prod.snd (Prod.snd (Prod.snd (Prod.snd (g6_0 x1)))))))))), Prod.fst (Prod.snd (Prod.snd (Prod.snd (Prod.snd (Prod.snd (Prod.snd (Prod.snd (Prod.snd (Prod.snd (Prod.snd (g6_0 x1))))))))))), Prod.fst (Prod.snd (Prod.snd (Prod.snd (Prod.snd (Prod.snd (Prod.snd (Prod.snd (Prod.snd (Prod.snd (Prod.snd (Prod.snd (g6_0 x1)))))))))))), ()) == g5_0 (g6_0 x0) (g6_0 x1)) = Bool.true]) := by kernel_rfl
theorem p3_3 (x0 : TyA0) (x1 : TyA0) : runF tab ext3 false 45 [] 2000 [] oks3 kds3 tys3 Try.f3.results [false, false, false, true] [.code b3] (entE 0 0 sig3 (x0, x1, ())) (entL sig3 (x0, x1, ())) = some ([Dyn.mk Ty.bool Bool.false], [], [P4 x0 1048576, Decidable.decide (g4_0 x0 1048576 < 0) = Bool.false, P4 x1 (g4_0 x0 1048576), Decidable.decide (g4_0 x1 (g4_0 x0 1048576) < 0) = Bool.false, P6 x0, P6 x1, True, P6 x0, P6 x1, True, (!g7_0 (Prod.fst (g6_0 x0), (Prod.fst (Prod.fst (Prod.snd (g6_0 x0))), Prod.fst (Prod.snd (Prod.fst (Prod.snd (g6_0 x0)))), Prod.fst (Prod.snd (Prod.snd (Prod.fst (Prod.snd (g6_0 x0))))), Prod.fst (Prod.snd (Prod.snd (Prod.snd (Prod.fst (Prod.snd (g6_0 x0)))))), ()), Prod.fst (Prod.snd (Prod.snd (g6_0 x0))), Prod.fst (Prod.snd (Prod.snd (Prod.snd (g6_0 x0)))), (Prod.fst (Prod.fst (Prod.snd (Prod.snd (Prod.snd (Prod.snd (g6_0 x0)))))), Prod.fst (Prod.snd (Prod.fst (Prod.snd (Prod.snd (Prod.snd (Prod.snd (g6_0 x0))))))), Prod.fst (Prod.snd (Prod.snd (Prod.fst (Prod.snd (Prod.snd (Prod.snd (Prod.snd (g6_0 x0)))))))), ()), (Prod.fst (Prod.fst (Prod.snd (Prod.snd (Prod.snd (Prod.snd (Prod.snd (g6_0 x0))))))), Prod.fst (Prod.snd (Prod.fst (Prod.snd (Prod.snd (Prod.snd (Prod.snd (Prod.snd (g6_0 x0)))))))), Prod.fst (Prod.snd (Prod.snd (Prod.fst (Prod.snd (Prod.snd (Prod.snd (Prod.snd (Prod.snd (g6_0 x0))))))))), ()), Prod.fst (Prod.snd (Prod.snd (Prod.snd (Prod.snd (Prod.snd (Prod.snd (g6_0 x0))))))), (Prod.fst (Prod.fst (Prod.snd (Prod.snd (Prod.snd (Prod.snd (Prod.snd (Prod.snd (Prod.snd (g6_0 x0))))))))), Prod.fst (Prod.snd (Prod.fst (Prod.snd (Prod.snd (Prod.snd (Prod.snd (Prod.snd (Prod.snd (Prod.snd (g6_0 x0)))))))))), Prod.fst (Prod.snd (Prod.snd (Prod.fst (Prod.snd (Prod.snd (Prod.snd (Prod.snd (Prod.snd (Prod.snd (Prod.snd (g6_0 x0))))))))))), Prod.fst (Prod.snd (Prod.snd (Prod.snd (Prod.fst (Prod.snd (Prod.snd (Prod.snd (Prod.snd (Prod.snd (Prod.snd (Prod.snd (g6_0 x0)))))))))))), ()), Prod.fst (Prod.snd (Prod.snd (Prod.snd (Prod.snd (Prod.snd (Prod.snd (Prod.snd (Prod.snd (g6_0 x0))))))))), Prod.fst (Prod.snd (Prod.snd (Prod.snd (Prod.snd (Prod.snd (Prod.snd (Prod.snd (Prod.snd (Prod.snd (g6_0 x0)))))))))), Prod.fst (Prod.snd (Prod.snd (Prod.snd (Prod.snd (Prod.snd (Prod.snd (Prod.snd (Prod.snd (Prod.snd (Prod.snd (g6_0 x0))))))))))), Prod.fst (Prod.snd (Prod.snd (Prod.snd (Prod.snd (Prod.snd (Prod.snd (Prod.snd (Prod.snd (Prod.snd (Prod.snd (Prod.snd (g6_0 x0)))))))))))), ()) (Prod.fst (g6_0 x1), (Prod.fst (Prod.fst (Prod.snd (g6_0 x1))), Prod.fst (Prod.snd (Prod.fst (Prod.snd (g6_0 x1)))), Prod.fst (Prod.snd (Prod.snd (Prod.fst (Prod.snd (g6_0 x1))))), Prod.fst (Prod.snd (Prod.snd (Prod.snd (Prod.fst (Prod.snd (g6_0 x1)))))), ()), Prod.fst (Prod.snd (Prod.snd (g6_0 x1))), Prod.fst (Prod.snd (Prod.snd (Prod.snd (g6_0 x1)))), (Prod.fst (Prod.fst (Prod.snd (Prod.snd (Prod.snd (Prod.snd (g6_0 x1)))))), Prod.fst (Prod.snd (Prod.fst (Prod.snd (Prod.snd (Prod.snd (Prod.snd (g6_0 x1))))))), Prod.fst (Prod.snd (Prod.snd (Prod.fst (Prod.snd (Prod.snd (Prod.snd (Prod.snd (g6_0 x1)))))))), ()), (Prod.fst (Prod.fst (Prod.snd (Prod.snd (Prod.snd (Prod.snd (Prod.snd (g6_0 x1))))))), Prod.fst (Prod.snd (Prod.fst (Prod.snd (Prod.snd (Prod.snd (Prod.snd (Prod.snd (g6_0 x1)))))))), Prod.fst (Prod.snd (Prod.snd (Prod.fst (Prod.snd (Prod.snd (Prod.snd (Prod.snd (Prod.snd (g6_0 x1))))))))), ()), Prod.fst (Prod.snd (Prod.snd (Prod.snd (Prod.snd (Prod.snd (Prod.snd (g6_0 x1))))))), (Prod.fst (Prod.fst (Prod.snd (Prod.snd (Prod.snd (Prod.snd (Prod.snd (Prod.snd (Prod.snd (g6_0 x1))))))))), Prod.fst (Prod.snd (Prod.fst (Prod.snd (Prod.snd (Prod.snd (Prod.snd (Prod.snd (Prod.snd (Prod.snd (g6_0 x1)))))))))), Prod.fst (Prod.snd (Prod.snd (Prod.fst (Prod.snd (Prod.snd (Prod.snd (Prod.snd (Prod.snd (Prod.snd (Prod.snd (g6_0 x1))))))))))), Prod.fst (Prod.snd (Prod.snd (Prod.snd (Prod.fst (Prod.snd (Prod.snd (Prod.snd (Prod.snd (Prod.snd (Prod.snd (Prod.snd (g6_0 x1)))))))))))), ()), Prod.fst (Prod.snd (Prod.snd (Prod.snd (Prod.snd (Prod.snd (Prod.snd (Prod.snd (Prod.snd (g6_0 x1))))))))), Prod.fst (Prod.snd (Prod.snd (Prod.snd (Prod.snd (Prod.snd (Prod.snd (Prod.snd (Prod.snd (Prod.snd (g6_0 x1)))))))))), Prod.fst (Prod.snd (Prod.snd (Prod.snd (Prod.snd (Prod.snd (Prod.snd (Prod.snd (Prod.snd (Prod.snd (Prod.snd (g6_0 x1))))))))))), Prod.fst (Prod.snd (Prod.snd (Prod.snd (Prod.snd (Prod.snd (Prod.snd (Prod.snd (Prod.snd (Prod.snd (Prod.snd (Prod.snd (g6_0 x1)))))))))))), ()) == g5_0 (g6_0 x0) (g6_0 x1)) = Bool.false, P6 x0, True, (!g8_0 (Prod.fst (g6_0 x0), (Prod.fst (Prod.fst (Prod.snd (g6_0 x0))), Prod.fst (Prod.snd (Prod.fst (Prod.snd (g6_0 x0)))), Prod.fst (Prod.snd (Prod.snd (Prod.fst (Prod.snd (g6_0 x0))))), Prod.fst (Prod.snd (Prod.snd (Prod.snd (Prod.fst (Prod.snd (g6_0 x0)))))), ()), Prod.fst (Prod.snd (Prod.snd (g6_0 x0))), Prod.fst (Prod.snd (Prod.snd (Prod.snd (g6_0 x0)))), (Prod.fst (Prod.fst (Prod.snd (Prod.snd (Prod.snd (Prod.snd (g6_0 x0)))))), Prod.fst (Prod.snd (Prod.fst (Prod.snd (Prod.snd (Prod.snd (Prod.snd (g6_0 x0))))))), Prod.fst (Prod.snd (Prod.snd (Prod.fst (Prod.snd (Prod.snd (Prod.snd (Prod.snd (g6_0 x0)))))))), ()), (Prod.fst (Prod.fst (Prod.snd (Prod.snd (Prod.snd (Prod.snd (Prod.snd (g6_0 x0))))))), Prod.fst (Prod.snd (Prod.fst (Prod.snd (Prod.snd (Prod.snd (Prod.snd (Prod.snd (g6_0 x0)))))))), Prod.fst (Prod.snd (Prod.snd (Prod.fst (Prod.snd (Prod.snd (Prod.snd (Prod.snd (Prod.snd (g6_0 x0))))))))), ()), Prod.fst (Prod.snd (Prod.snd (Prod.snd (Prod.snd (Prod.snd (Prod.snd (g6_0 x0))))))), (Prod.fst (Prod.fst (Prod.snd (Prod.snd (Prod.snd (Prod.snd (Prod.snd (Prod.snd (Prod.snd (g6_0 x0))))))))), Prod.fst (Prod.snd (Prod.fst (Prod.snd (Prod.snd (Prod.snd (Prod.snd (Prod.snd (Prod.snd (Prod.snd (g6_0 x0)))))))))), Prod.fst (Prod.snd (Prod.snd (Prod.fst (Prod.snd (Prod.snd (Prod.snd (Prod.snd (Prod.snd (Prod.snd (Prod.snd (g6_0 x0))))))))))), Prod.fst (Prod.snd (Prod.snd (Prod.snd (Prod.fst (Prod.snd (Prod.snd (Prod.snd (Prod.snd (Prod.snd (Prod.snd (Prod.snd (g6_0 x0)))))))))))), ()), Prod.fst (Prod.snd (Prod.snd (Prod.snd (Prod.snd (Prod.snd (Prod.snd (Prod.snd (Prod.snd (g6_0 x0))))))))), Prod.fst (Prod.snd (Prod.snd (Prod.snd (Prod.snd (Prod.snd (Prod.snd (Prod.snd (Prod.snd (Prod.snd (g6_0 x0)))))))))), Prod.fst (Prod.snd (Prod.snd (Prod.snd (Prod.snd (Prod.snd (Prod.snd (Prod.snd (Prod.snd (Prod.snd (Prod.snd (g6_0 x0))))))))))), Prod.fst (Prod.snd (Prod.snd (Prod.snd (Prod.snd (Prod.snd (Prod.snd (Prod.snd (Prod.snd (Prod.snd (Prod.snd (Prod.snd (g6_0 x0)))))))))))), ()) (g6_0 x0)) = Bool.true]) := by kernel_rfl
theorem p3_4 (x0 : TyA0) (x1 : TyA0) : runF tab ext3 false 45 [] 2000 [] oks3 kds3 tys3 Try.f3.results [false, false, false, false, true] [.code b3] (entE 0 0 sig3 (x0, x1, ())) (entL sig3 (x0, x1, ())) = some ([Dyn.mk Ty.bool Bool.false], [], [P4 x0 1048576, Decidable.decide (g4_0 x0 1048576 < 0) = Bool.false, P4 x1 (g4_0 x0 1048576), Decidable.decide (g4_0 x1 (g4_0 x0 1048576) < 0) = Bool.false, P6 x0, P6 x1, True, P6 x0, P6 x1, True, (!g7_0 (Prod.fst (g6_0 x0), (Prod.fst (Prod.fst (Prod.snd (g6_0 x0))), Prod.fst (Prod.snd (Prod.fst (Prod.snd (g6_0 x0)))), Prod.fst (Prod.snd (Prod.snd (Prod.fst (Prod.snd (g6_0 x0))))), Prod.fst (Prod.snd (Prod.snd (Prod.snd (Prod.fst (Prod.snd (g6_0 x0)))))), ()), Prod.fst (Prod.snd (Prod.snd (g6_0 x0))), Prod.fst (Prod.snd (Prod.snd (Prod.snd (g6_0 x0)))), (Prod.fst (Prod.fst (Prod.snd (Prod.snd (Prod.snd (Prod.snd (g6_0 x0)))))), Prod.fst (Prod.snd (Prod.fst (Prod.snd (Prod.snd (Prod.snd (Prod.snd (g6_0 x0))))))), Prod.fst (Prod.snd (Prod.snd (Prod.fst (Prod.snd (Prod.snd (Prod.snd (Prod.snd (g6_0 x0)))))))), ()), (Prod.fst (Prod.fst (Prod.snd (Prod.snd (Prod.snd (Prod.snd (Prod.snd (g6_0 x0))))))), Prod.fst (Prod.snd (Prod.fst (Prod.snd (Prod.snd (Prod.snd (Prod.snd (Prod.snd (g6_0 x0)))))))), Prod.fst (Prod.snd (Prod.snd (Prod.fst (Prod.snd (Prod.snd (Prod.snd (Prod.snd (Prod.snd (g6_0 x0))))))))), ()), Prod.fst (Prod.snd (Prod.snd (Prod.snd (Prod.snd (Prod.snd (Prod.snd (g6_0 x0))))))), (Prod.fst (Prod.fst (Prod.snd (Prod.snd (Prod.snd (Prod.snd (Prod.snd (Prod.snd (Prod.snd (g6_0 x0))))))))), Prod.fst (Prod.snd (Prod.fst (Prod.snd (Prod.snd (Prod.snd (Prod.snd (Prod.snd (Prod.snd (Prod.snd (g6_0 x0)))))))))), Prod.fst (Prod.snd (Prod.snd (Prod.fst (Prod.snd (Prod.snd (Prod.snd (Prod.snd (Prod.snd (Prod.snd (Prod.snd (g6_0 x0))))))))))), Prod.fst (Prod.snd (Prod.snd (Prod.snd (Prod.fst (Prod.snd (Prod.snd (Prod.snd (Prod.snd (Prod.snd (Prod.snd (Prod.snd (g6_0 x0)))))))))))), ()), Prod.fst (Prod.snd (Prod.snd (Prod.snd (Prod.snd (Prod.snd (Prod.snd (Prod.snd (Prod.snd (g6_0 x0))))))))), Prod.fst (Prod.snd (Prod.snd (Prod.snd (Prod.snd (Prod.snd (Prod.snd (Prod.snd (Prod.snd (Prod.snd (g6_0 x0)))))))))), Prod.fst (Prod.snd (Prod.snd (Prod.snd (Prod.snd (Prod.snd (Prod.snd (Prod.snd (Prod.snd (Prod.snd (Prod.snd (g6_0 x0))))))))))), Prod.fst (Prod.snd (Prod.snd (Prod.snd (Prod.snd (Prod.snd (Prod.snd (Prod.snd (Prod.snd (Prod.snd (Prod.snd (Prod.snd (g6_0 x0)))))))))))), ()) (Prod.fst (g6_0 x1), (Prod.fst (Prod.fst (Prod.snd (g6_0 x1))), Prod.fst (Prod.snd (Prod.fst (Prod.snd (g6_0 x1)))), Prod.fst (Prod.snd (Prod.snd (Prod.fst (Prod.snd (g6_0 x1))))), Prod.fst (Prod.snd (Prod.snd (Prod.snd (Prod.fst (Prod.snd (g6_0 x1)))))), ()), Prod.fst (Prod.snd (Prod.snd (g6_0 x1))), Prod.fst (Prod.snd (Prod.snd (Prod.snd (g6_0 x1)))), (Prod.fst (Prod.fst (Prod.snd (Prod.snd (Prod.snd (Prod.snd (g6_0 x1)))))), Prod.fst (Prod.snd (Prod.fst (Prod.snd (Prod.snd (Prod.snd (Prod.snd (g6_0 x1))))))), Prod.fst (Prod.snd (Prod.snd (Prod.fst (Prod.snd (Prod.snd (Prod.snd (Prod.snd (g6_0 x1)))))))), ()), (Prod.fst (Prod.fst (Prod.snd (Prod.snd (Prod.snd (Prod.snd (Prod.snd (g6_0 x1))))))), Prod.fst (Prod.snd (Prod.fst (Prod.snd (Prod.snd (Prod.snd (Prod.snd (Prod.snd (g6_0 x1)))))))), Prod.fst (Prod.snd (Prod.snd (Prod.fst (Prod.snd (Prod.snd (Prod.snd (Prod.snd (Prod.snd (g6_0 x1))))))))), ()), Prod.fst (Prod.snd (Prod.snd (Prod.snd (Prod.snd (Prod.snd (Prod.snd (g6_0 x1))))))), (Prod.fst (Prod.fst (Prod.snd (Prod.snd (Prod.snd (Prod.snd (Prod.snd (Prod.snd (Prod.snd (g6_0 x1))))))))), Prod.fst (Prod.snd (Prod.fst (Prod.snd (Prod.snd (Prod.snd (Prod.snd (Prod.snd (Prod.snd (Prod.snd (g6_0 x1)))))))))), Prod.fst (Prod.snd (Prod.snd (Prod.fst (Prod.snd (Prod.snd (Prod.snd (Prod.snd (Prod.snd (Prod.snd (Prod.snd (g6_0 x1))))))))))), Prod.fst (Prod.snd (Prod.snd (Prod.snd (Prod.fst (Prod.snd (Prod.snd (Prod.snd (Prod.snd (Prod.snd (Prod.snd (Prod.snd (g6_0 x1)))))))))))), ()), Prod.fst (Prod.snd (Prod.snd (Prod.snd (Prod.snd (Prod.snd (Prod.snd (Prod.snd (Prod.snd (g6_0 x1))))))))), Prod.fst (Prod.snd (Prod.snd (Prod.snd (Prod.snd (Prod.snd (Prod.snd (Prod.snd (Prod.snd (Prod.snd (g6_0 x1)))))))))), Prod.fst (Prod.snd (Prod.snd (Prod.snd (Prod.snd (Prod.snd (Prod.snd (Prod.snd (Prod.snd (Prod.snd (Prod.snd (g6_0 x1))))))))))), Prod.fst (Prod.snd (Prod.snd (Prod.snd (Prod.snd (Prod.snd (Prod.snd (Prod.snd (Prod.snd (Prod.snd (Prod.snd (Prod.snd (g6_0 x1)))))))))))), ()) == g5_0 (g6_0 x0) (g6_0 x1)) = Bool.false, P6 x0, True, (!g8_0 (Prod.fst (g6_0 x0), (Prod.fst (Prod.fst (Prod.snd (g6_0 x0))), Prod.fst (Prod.snd (Prod.fst (Prod.snd (g6_0 x0)))), Prod.fst (Prod.snd (Prod.snd (Prod.fst (Prod.snd (g6_0 x0))))), Prod.fst (Prod.snd (Prod.snd (Prod.snd (Prod.fst (Prod.snd (g6_0 x0)))))), ()), Prod.fst (Prod.snd (Prod.snd (g6_0 x0))), Prod.fst (Prod.snd (Prod.snd (Prod.snd (g6_0 x0)))), (Prod.fst (Prod.fst (Prod.snd (Prod.snd (Prod.snd (Prod.snd (g6_0 x0)))))), Prod.fst (Prod.snd (Prod.fst (Prod.snd (Prod.snd (Prod.snd (Prod.snd (g6_0 x0))))))), Prod.fst (Prod.snd (Prod.snd (Prod.fst (Prod.snd (Prod.snd (Prod.snd (Prod.snd (g6_0 x0)))))))), ()), (Prod.fst (Prod.fst (Prod.snd (Prod.snd (Prod.snd (Prod.snd (Prod.snd (g6_0 x0))))))), Prod.fst (Prod.snd (Prod.fst (Prod.snd (Prod.snd (Prod.snd (Prod.snd (Prod.snd (g6_0 x0)))))))), Prod.fst (Prod.snd (Prod.snd (Prod.fst (Prod.snd (Prod.snd (Prod.snd (Prod.snd (Prod.snd (g6_0 x0))))))))), ()), Prod.fst (Prod.snd (Prod.snd (Prod.snd (Prod.snd (Prod.snd (Prod.snd (g6_0 x0))))))), (Prod.fst (Prod.fst (Prod.snd (Prod.snd (Prod.snd (Prod.snd (Prod.snd (Prod.snd (Prod.snd (g6_0 x0))))))))), Prod.fst (Prod.snd (Prod.fst (Prod.snd (Prod.snd (Prod.snd (Prod.snd (Prod.snd (Prod.snd (Prod.snd (g6_0 x0)))))))))), Prod.fst (Prod.snd (Prod.snd (Prod.fst (Prod.snd (Prod.snd (Prod.snd (Prod.snd (Prod.snd (Prod.snd (Prod.snd (g6_0 x0))))))))))), Prod.fst (Prod.snd (Prod.snd (Prod.snd (Prod.fst (Prod.snd (Prod.snd (Prod.snd (Prod.snd (Prod.snd (Prod.snd (Prod.snd (g6_0 x0)))))))))))), ()), Prod.fst (Prod.snd (Prod.snd (Prod.snd (Prod.snd (Prod.snd (Prod.snd (Prod.snd (Prod.snd (g6_0 x0))))))))), Prod.fst (Prod.snd (Prod.snd (Prod.snd (Prod.snd (Prod.snd (Prod.snd (Prod.snd (Prod.snd (Prod.snd (g6_0 x0)))))))))), Prod.fst (Prod.snd (Prod.snd (Prod.snd (Prod.snd (Prod.snd (Prod.snd (Prod.snd (Prod.snd (Prod.snd (Prod.snd (g6_0 x0))))))))))), Prod.fst (Prod.snd (Prod.snd (Prod.snd (Prod.snd (Prod.snd (Prod.snd (Prod.snd (Prod.snd (Prod.snd (Prod.snd (Prod.snd (g6_0 x0)))))))))))), ()) (g6_0 x0)) = Bool.false, P6 x1, True, (!g8_0 (Prod.fst (g6_0 x1), (Prod.fst (Prod.fst (Prod.snd (g6_0 x1))), Prod.fst (Prod.snd (Prod.fst (Prod.snd (g6_0 x1)))), Prod.fst (Prod.snd (Prod.snd (Prod.fst (Prod.snd (g6_0 x1))))), Prod.fst (Prod.snd (Prod.snd (Prod.snd (Prod.fst (Prod.snd (g6_0 x1)))))), ()), Prod.fst (Prod.snd (Prod.snd (g6_0 x1))), Prod.fst (Prod.snd (Prod.snd (Prod.snd (g6_0 x1)))), (Prod.fst (Prod.fst (Prod.snd (Prod.snd (Prod.snd (Prod.snd (g6_0 x1)))))), Prod.fst (Prod.snd (Prod.fst (Prod.snd (Prod.snd (Prod.snd (Prod.snd (g6_0 x1))))))), Prod.fst (Prod.snd (Prod.snd (Prod.fst (Prod.snd (Prod.snd (Prod.snd (Prod.snd (g6_0 x1)))))))), ()), (Prod.fst (Prod.fst (Prod.snd (Prod.snd (Prod.snd (Prod.snd (Prod.snd (g6_0 x1))))))), Prod.fst (Prod.snd (Prod.fst (Prod.snd (Prod.snd (Prod.snd (Prod.snd (Prod.snd (g6_0 x1)))))))), Prod.fst (Prod.snd (Prod.snd (Prod.fst (Prod.snd (Prod.snd (Prod.snd (Prod.snd (Prod.snd (g6_0 x1))))))))), ()), Prod.fst (Prod.snd (Prod.snd (Prod.snd (Prod.snd (Prod.snd (Prod.snd (g6_0 x1))))))), (Prod.fst (Prod.fst (Prod.snd (Prod.snd (Prod.snd (Prod.snd (Prod.snd (Prod.snd (Prod.snd (g6_0 x1))))))))), Prod.fst (Prod.snd (Prod.fst (Prod.snd (Prod.snd (Prod.snd (Prod.snd (Prod.snd (Prod.snd (Prod.snd (g6_0 x1)))))))))), Prod.fst (Prod.snd (Prod.snd (Prod.fst (Prod.snd (Prod.snd (Prod.snd (Prod.snd (Prod.snd (Prod.snd (Prod.snd (g6_0 x1))))))))))), Prod.fst (Prod.snd (Prod.snd (Prod.snd (Prod.fst (Prod.snd (Prod.snd (Prod.snd (Prod.snd (Prod.snd (Prod.snd (Prod.snd (g6_0 x1)))))))))))), ()), Prod.fst (Prod.snd (Prod.snd (Prod.snd (Prod.snd (Prod.snd (Prod.snd (Prod.snd (Prod.snd (g6_0 x1))))))))), Prod.fst (Prod.snd (Prod.snd (Prod.snd (Prod.snd (Prod.snd (Prod.snd (Prod.snd (Prod.snd (Prod.snd (g6_0 x1)))))))))), Prod.fst (Prod.snd (Prod.snd (Prod.snd (Prod.snd (Prod.snd (Prod.snd (Prod.snd (Prod.snd (Prod.snd (Prod.snd (g6_0 x1))))))))))), Prod.fst (Prod.snd (Prod.snd (Prod.snd (Prod.snd (Prod.snd (Prod.snd (Prod.snd (Prod.snd (Prod.snd (Prod.snd (Prod.snd (g6_0 x1)))))))))))), ()) (g6_0 x1)) = Bool.true]) := by kernel_rfl
theorem p3_5 (x0 : TyA0) (x1 : TyA0) : runF tab ext3 false 45 [] 2000 [] oks3 kds3 tys3 Try.f3.results [false, false, false, false, false] [.code b3] (entE 0 0 sig3 (x0, x1, ())) (entL sig3 (x0, x1, ())) = some ([Dyn.mk Ty.bool Bool.true], [], [P4 x0 1048576, Decidable.decide (g4_0 x0 1048576 < 0) = Bool.false, P4 x1 (g4_0 x0 1048576), Decidable.decide (g4_0 x1 (g4_0 x0 1048576) < 0) = Bool.false, P6 x0, P6 x1, True, P6 x0, P6 x1, True, (!g7_0 (Prod.fst (g6_0 x0), (Prod.fst (Prod.fst (Prod.snd (g6_0 x0))), Prod.fst (Prod.snd (Prod.fst (Prod.snd (g6_0 x0)))), Prod.fst (Prod.snd (Prod.snd (Prod.fst (Prod.snd (g6_0 x0))))), Prod.fst (Prod.snd (Prod.snd (Prod.snd (Prod.fst (Prod.snd (g6_0 x0)))))), ()), Prod.fst (Prod.snd (Prod.snd (g6_0 x0))), Prod.fst (Prod.snd (Prod.snd (Prod.snd (g6_0 x0)))), (Prod.fst (Prod.fst (Prod.snd (Prod.snd (Prod.snd (Prod.snd (g6_0 x0)))))), Prod.fst (Prod.snd (Prod.fst (Prod.snd (Prod.snd (Prod.snd (Prod.snd (g6_0 x0))))))), Prod.fst (Prod.snd (Prod.snd (Prod.fst (Prod.snd (Prod.snd (Prod.snd (Prod.snd (g6_0 x0)))))))), ()), (Prod.fst (Prod.fst (Prod.snd (Prod.snd (Prod.snd (Prod.snd (Prod.snd (g6_0 x0))))))), Prod.fst (Prod.snd (Prod.fst (Prod.snd (Prod.snd (Prod.snd (Prod.snd (Prod.snd (g6_0 x0)))))))), Prod.fst (Prod.snd (Prod.snd (Prod.fst (Prod.snd (Prod.snd (Prod.snd (Prod.snd (Prod.snd (g6_0 x0))))))))), ()), Prod.fst (Prod.snd (Prod.snd (Prod.snd (Prod.snd (Prod.snd (Prod.snd (g6_0 x0))))))), (Prod.fst (Prod.fst (Prod.snd (Prod.snd (Prod.snd (Prod.snd (Prod.snd (Prod.snd (Prod.snd (g6_0 x0))))))))), Prod.fst (Prod.snd (Prod.fst (Prod.snd (Prod.snd (Prod.snd (Prod.snd (Prod.snd (Prod.snd (Prod.snd (g6_0 x0)))))))))), Prod.fst (Prod.snd (Prod.snd (Prod.fst (Prod.snd (Prod.snd (Prod.snd (Prod.snd (Prod.snd (Prod.snd (Prod.snd (g6_0 x0))))))))))), Prod.fst (Prod.snd (Prod.snd (Prod.snd (Prod.fst (Prod.snd (Prod.snd (Prod.snd (Prod.snd (Prod.snd (Prod.snd (Prod.snd (g6_0 x0)))))))))))), ()), Prod.fst (Prod.snd (Prod.snd (Prod.snd (Prod.snd (Prod.snd (Prod.snd (Prod.snd (Prod.snd (g6_0 x0))))))))), Prod.fst (Prod.snd (Prod.snd (Prod.snd (Prod.snd (Prod.snd (Prod.snd (Prod.snd (Prod.snd (Prod.snd (g6_0 x0)))))))))), Prod.fst (Prod.snd (Prod.snd (Prod.snd (Prod.snd (Prod.snd (Prod.snd (Prod.snd (Prod.snd (Prod.snd (Prod.snd (g6_0 x0))))))))))), Prod.fst (Prod.snd (Prod.snd (Prod.snd (Prod.snd (Prod.snd (Prod.snd (Prod.snd (Prod.snd (Prod.snd (Prod.snd (Prod.snd (g6_0 x0)))))))))))), ()) (Prod.fst (g6_0 x1), (Prod.fst (Prod.fst (Prod.snd (g6_0 x1))), Prod.fst (Prod.snd (Prod.fst (Prod.snd (g6_0 x1)))), Prod.fst (Prod.snd (Prod.snd (Prod.fst (Prod.snd (g6_0 x1))))), Prod.fst (Prod.snd (Prod.snd (Prod.snd (Prod.fst (Prod.snd (g6_0 x1)))))), ()), Prod.fst (Prod.snd (Prod.snd (g6_0 x1))), Prod.fst (Prod.snd (Prod.snd (Prod.snd (g6_0 x1)))), (Prod.fst (Prod.fst (Prod.snd (Prod.snd (Prod.snd (Prod.snd (g6_0 x1)))))), Prod.fst (Prod.snd (Prod.fst (Prod.snd (Prod.snd (Prod.snd (Prod.snd (g6_0 x1))))))), Prod.fst (Prod.snd (Prod.snd (Prod.fst (Prod.snd (Prod.snd (Prod.snd (Prod.snd (g6_0 x1)))))))), ()), (Prod.fst (Prod.fst (Prod.snd (Prod.snd (Prod.snd (Prod.snd (Prod.snd (g6_0 x1))))))), Prod.fst (Prod.snd (Prod.fst (Prod.snd (Prod.snd (Prod.snd (Prod.snd (Prod.snd (g6_0 x1)))))))), Prod.fst (Prod.snd (Prod.snd (Prod.fst (Prod.snd (Prod.snd (Prod.snd (Prod.snd (Prod.snd (g6_0 x1))))))))), ()), Prod.fst (Prod.snd (Prod.snd (Prod.snd (Prod.snd (Prod.snd (Prod.snd (g6_0 x1))))))), (Prod.fst (Prod.fst (Prod.snd (Prod.snd (Prod.snd (Prod.snd (Prod.snd (Prod.snd (Prod.snd (g6_0 x1))))))))), Prod.fst (Prod.snd (Prod.fst (Prod.snd (Prod.snd (Prod.snd (Prod.snd (Prod.snd (Prod.snd (Prod.snd (g6_0 x1)))))))))), Prod.fst (Prod.snd (Prod.snd (Prod.fst (Prod.snd (Prod.snd (Prod.snd (Prod.snd (Prod.snd (Prod.snd (Prod.snd (g6_0 x1))))))))))), Prod.fst (Prod.snd (Prod.snd (Prod.snd (Prod.fst (Prod.snd (Prod.snd (Prod.snd (Prod.snd (Prod.snd (Prod.snd (Prod.snd (g6_0 x1)))))))))))), ()), Prod.fst (Prod.snd (Prod.snd (Prod.snd (Prod.snd (Prod.snd (Prod.snd (Prod.snd (Prod.snd (g6_0 x1))))))))), Prod.fst (Prod.snd (Prod.snd (Prod.snd (Prod.snd (Prod.snd (Prod.snd (Prod.snd (Prod.snd (Prod.snd (g6_0 x1)))))))))), Prod.fst (Prod.snd (Prod.snd (Prod.snd (Prod.snd (Prod.snd (Prod.snd (Prod.snd (Prod.snd (Prod.snd (Prod.snd (g6_0 x1))))))))))), Prod.fst (Prod.snd (Prod.snd (Prod.snd (Prod.snd (Prod.snd (Prod.snd (Prod.snd (Prod.snd (Prod.snd (Prod.snd (Prod.snd (g6_0 x1)))))))))))), ()) == g5_0 (g6_0 x0) (g6_0 x1)) = Bool.false, P6 x0, True, (!g8_0 (Prod.fst (g6_0 x0), (Prod.fst (Prod.fst (Prod.snd (g6_0 x0))), Prod.fst (Prod.snd (Prod.fst (Prod.snd (g6_0 x0)))), Prod.fst (Prod.snd (Prod.snd (Prod.fst (Prod.snd (g6_0 x0))))), Prod.fst (Prod.snd (Prod.snd (Prod.snd (Prod.fst (Prod.snd (g6_0 x0)))))), ()), Prod.fst (Prod.snd (Prod.snd (g6_0 x0))), Prod.fst (Prod.snd (Prod.snd (Prod.snd (g6_0 x0)))), (Prod.fst (Prod.fst (Prod.snd (Prod.snd (Prod.snd (Prod.snd (g6_0 x0)))))), Prod.fst (Prod.snd (Prod.fst (Prod.snd (Prod.snd (Prod.snd (Prod.snd (g6_0 x0))))))), Prod.fst (Prod.snd (Prod.snd (Prod.fst (Prod.snd (Prod.snd (Prod.snd (Prod.snd (g6_0 x0)))))))), ()), (Prod.fst (Prod.fst (Prod.snd (Prod.snd (Prod.snd (Prod.snd (Prod.snd (g6_0 x0))))))), Prod.fst (Prod.snd (Prod.fst (Prod.snd (Prod.snd (Prod.snd (Prod.snd (Prod.snd (g6_0 x0)))))))), Prod.fst (Prod.snd (Prod.snd (Prod.fst (Prod.snd (Prod.snd (Prod.snd (Prod.snd (Prod.snd (g6_0 x0))))))))), ()), Prod.fst (Prod.snd (Prod.snd (Prod.snd (Prod.snd (Prod.snd (Prod.snd (g6_0 x0))))))), (Prod.fst (Prod.fst (Prod.snd (Prod.snd (Prod.snd (Prod.snd (Prod.snd (Prod.snd (Prod.snd (g6_0 x0))))))))), Prod.fst (Prod.snd (Prod.fst (Prod.snd (Prod.snd (Prod.snd (Prod.snd (Prod.snd (Prod.snd (Prod.snd (g6_0 x0)))))))))), Prod.fst (Prod.snd (Prod.snd (Prod.fst (Prod.snd (Prod.snd (Prod.snd (Prod.snd (Prod.snd (Prod.snd (Prod.snd (g6_0 x0))))))))))), Prod.fst (Prod.snd (Prod.snd (Prod.snd (Prod.fst (Prod.snd (Prod.snd (Prod.snd (Prod.snd (Prod.snd (Prod.snd (Prod.snd (g6_0 x0)))))))))))), ()), Prod.fst (Prod.snd (Prod.snd (Prod.snd (Prod.snd (Prod.snd (Prod.snd (Prod.snd (Prod.snd (g6_0 x0))))))))), Prod.fst (Prod.snd (Prod.snd (Prod.snd (Prod.snd (Prod.snd (Prod.snd (Prod.snd (Prod.snd (Prod.snd (g6_0 x0)))))))))), Prod.fst (Prod.snd (Prod.snd (Prod.snd (Prod.snd (Prod.snd (Prod.snd (Prod.snd (Prod.snd (Prod.snd (Prod.snd (g6_0 x0))))))))))), Prod.fst (Prod.snd (Prod.snd (Prod.snd (Prod.snd (Prod.snd (Prod.snd (Prod.snd (Prod.snd (Prod.snd (Prod.snd (Prod.snd (g6_0 x0)))))))))))), ()) (g6_0 x0)) = Bool.false, P6 x1, True, (!g8_0 (Prod.fst (g6_0 x1), (Prod.fst (Prod.fst (Prod.snd (g6_0 x1))), Prod.fst (Prod.snd (Prod.fst (Prod.snd (g6_0 x1)))), Prod.fst (Prod.snd (Prod.snd (Prod.fst (Prod.snd (g6_0 x1))))), Prod.fst (Prod.snd (Prod.snd (Prod.snd (Prod.fst (Prod.snd (g6_0 x1)))))), ()), Prod.fst (Prod.snd (Prod.snd (g6_0 x1))), Prod.fst (Prod.snd (Prod.snd (Prod.snd (g6_0 x1)))), (Prod.fst (Prod.fst (Prod.snd (Prod.snd (Prod.snd (Prod.snd (g6_0 x1)))))), Prod.fst (Prod.snd (Prod.fst (Prod.snd (Prod.snd (Prod.snd (Prod.snd (g6_0 x1))))))), Prod.fst (Prod.snd (Prod.snd (Prod.fst (Prod.snd (Prod.snd (Prod.snd (Prod.snd (g6_0 x1)))))))), ()), (Prod.fst (Prod.fst (Prod.snd (Prod.snd (Prod.snd (Prod.snd (Prod.snd (g6_0 x1))))))), Prod.fst (Prod.snd (Prod.fst (Prod.snd (Prod.snd (Prod.snd (Prod.snd (Prod.snd (g6_0 x1)))))))), Prod.fst (Prod.snd (Prod.snd (Prod.fst (Prod.snd (Prod.snd (Prod.snd (Prod.snd (Prod.snd (g6_0 x1))))))))), ()), Prod.fst (Prod.snd (Prod.snd (Prod.snd (Prod.snd (Prod.snd (Prod.snd (g6_0 x1))))))), (Prod.fst (Prod.fst (Prod.snd (Prod.snd (Prod.snd (Prod.snd (Prod.snd (Prod.snd (Prod.snd (g6_0 x1))))))))), Prod.fst (Prod.snd (Prod.fst (Prod.snd (Prod.snd (Prod.snd (Prod.snd (Prod.snd (Prod.snd (Prod.snd (g6_0 x1)))))))))), Prod.fst (Prod.snd (Prod.snd (Prod.fst (Prod.snd (Prod.snd (Prod.snd (Prod.snd (Prod.snd (Prod.snd (Prod.snd (g6_0 x1))))))))))), Prod.fst (Prod.snd (Prod.snd (Prod.snd (Prod.fst (Prod.snd (Prod.snd (Prod.snd (Prod.snd (Prod.snd (Prod.snd (Prod.snd (g6_0 x1)))))))))))), ()), Prod.fst (Prod.snd (Prod.snd (Prod.snd (Prod.snd (Prod.snd (Prod.snd (Prod.snd (Prod.snd (g6_0 x1))))))))), Prod.fst (Prod.snd (Prod.snd (Prod.snd (Prod.snd (Prod.snd (Prod.snd (Prod.snd (Prod.snd (Prod.snd (g6_0 x1)))))))))), Prod.fst (Prod.snd (Prod.snd (Prod.snd (Prod.snd (Prod.snd (Prod.snd (Prod.snd (Prod.snd (Prod.snd (Prod.snd (g6_0 x1))))))))))), Prod.fst (Prod.snd (Prod.snd (Prod.snd (Prod.snd (Prod.snd (Prod.snd (Prod.snd (Prod.snd (Prod.snd (Prod.snd (Prod.snd (g6_0 x1)))))))))))), ()) (g6_0 x1)) = Bool.false]) := by kernel_rfl
theorem at3 (x0 : TyA0) (x1 : TyA0) (h : P3 x0 x1) (K : Ctx) (q : Nat → Value) : AtV Try.prog 3 (PostR kds3 oks3 [⟨Ty.bool, g3_0 x0 x1⟩] [] [] q K) 45 K q [] [.code b3] (entE 0 0 sig3 (x0, x1, ())) (entL sig3 (x0, x1, ())) := by
  unfold P3 at h
  unfold g3_0
  obtain ⟨s0, h⟩ := h
  by_cases b0 : (Decidable.decide (g4_0 x0 1048576 < 0)) = true
  · try simp only [if_pos b0] at h ⊢
    exact AtV.fin Try.func3 tabOk ext3Ok mixed (p3_0 x0 x1) ⟨s0, b0, trivial⟩
  · try simp only [if_neg b0] at h ⊢
    replace b0 := Bool.eq_false_iff.2 b0
    obtain ⟨s1, h⟩ := h
    by_cases b1 : (Decidable.decide (g4_0 x1 (g4_0 x0 1048576) < 0)) = true
    · try simp only [if_pos b1] at h ⊢
      exact AtV.fin Try.func3 tabOk ext3Ok mixed (p3_1 x0 x1) ⟨s0, b0, s1, b1, trivial⟩
    · try simp only [if_neg b1] at h ⊢
      replace b1 := Bool.eq_false_iff.2 b1
      obtain ⟨s2, h⟩ := h
      obtain ⟨s3, h⟩ := h
      obtain ⟨s4, h⟩ := h
      obtain ⟨s5, h⟩ := h
      by_cases b2 : (!g7_0 (Prod.fst (g6_0 x0), (Prod.fst (Prod.fst (Prod.snd (g6_0 x0))), Prod.fst (Prod.snd (Prod.fst (Prod.snd (g6_0 x0)))), Prod.fst (Prod.snd (Prod.snd (Prod.fst (Prod.snd (g6_0 x0))))), Prod.fst (Prod.snd (Prod.snd (Prod.snd (Prod.fst (Prod.snd (g6_0 x0)))))), ()), Prod.fst (Prod.snd (Prod.snd (g6_0 x0))), Prod.fst (Prod.snd (Prod.snd (Prod.snd (g6_0 x0)))), (Prod.fst (Prod.fst (Prod.snd (Prod.snd (Prod.snd (Prod.snd (g6_0 x0)))))), Prod.fst (Prod.snd (Prod.fst (Prod.snd (Prod.snd (Prod.snd (Prod.snd (g6_0 x0))))))), Prod.fst (Prod.snd (Prod.snd (Prod.fst (Prod.snd (Prod.snd (Prod.snd (Prod.snd (g6_0 x0)))))))), ()), (Prod.fst (Prod.fst (Prod.snd (Prod.snd (Prod.snd (Prod.snd (Prod.snd (g6_0 x0))))))), Prod.fst (Prod.snd (Prod.fst (Prod.snd (Prod.snd (Prod.snd (Prod.snd (Prod.snd (g6_0 x0)))))))), Prod.fst (Prod.snd (Prod.snd (Prod.fst (Prod.snd (Prod.snd (Prod.snd (Prod.snd (Prod.snd (g6_0 x0))))))))), ()), Prod.fst (Prod.snd (Prod.snd (Prod.snd (Prod.snd (Prod.snd (Prod.snd (g6_0 x0))))))), (Prod.fst (Prod.fst (Prod.snd (Prod.snd (Prod.snd (Prod.snd (Prod.snd (Prod.snd (Prod.snd (g6_0 x0))))))))), Prod.fst (Prod.snd (Prod.fst (Prod.snd (Prod.snd (Prod.snd (Prod.snd (Prod.snd (Prod.snd (Prod.snd (g6_0 x0)))))))))), Prod.fst (Prod.snd (Prod.snd (Prod.fst (Prod.snd (Prod.snd (Prod.snd (Prod.snd (Prod.snd (Prod.snd (Prod.snd (g6_0 x0))))))))))), Prod.fst (Prod.snd (Prod.snd (Prod.snd (Prod.fst (Prod.snd (Prod.snd (Prod.snd (Prod.snd (Prod.snd (Prod.snd (Prod.snd (g6_0 x0)))))))))))), ()), Prod.fst (Prod.snd (Prod.snd (Prod.snd (Prod.snd (Prod.snd (Prod.snd (Prod.snd (Prod.snd (g6_0 x0))))))))), Prod.fst (Prod.snd (Prod.snd (Prod.snd (Prod.snd (Prod.snd (Prod.snd (Prod.snd (Prod.snd (Prod.snd (g6_0 x0)))))))))), Prod.fst (Prod.snd (Prod.snd (Prod.snd (Prod.snd (Prod.snd (Prod.snd (Prod.snd (Prod.snd (Prod.snd (Prod.snd (g6_0 x0))))))))))), Prod.fst (Prod.snd (Prod.snd (Prod.snd (Prod.snd (Prod.snd (Prod.snd (Prod.snd (Prod.snd (Prod.snd (Prod.snd (Prod.snd (g6_0 x0)))))))))))), ()) (Prod.fst (g6_0 x1), (Prod.fst (Prod.fst (Prod.snd (g6_0 x1))), Prod.fst (Prod.snd (Prod.fst (Prod.snd (g6_0 x1)))), Prod.fst (Prod.snd (Prod.snd (Prod.fst (Prod.snd (g6_0 x1))))), Prod.fst (Prod.snd (Prod.snd (Prod.snd (Prod.fst (Prod.snd (g6_0 x1)))))), ()), Prod.fst (Prod.snd (Prod.snd (g6_0 x1))), Prod.fst (Prod.snd (Prod.snd (Prod.snd (g6_0 x1)))), (Prod.fst (Prod.fst (Prod.snd (Prod.snd (Prod.snd (Prod.snd (g6_0 x1)))))), Prod.fst (Prod.snd (Prod.fst (Prod.snd (Prod.snd (Prod.snd (Prod.snd (g6_0 x1))))))), Prod.fst (Prod.snd (Prod.snd (Prod.fst (Prod.snd (Prod.snd (Prod.snd (Prod.snd (g6_0 x1)))))))), ()), (Prod.fst (Prod.fst (Prod.snd (Prod.snd (Prod.snd (Prod.snd (Prod.snd (g6_0 x1))))))), Prod.fst (Prod.snd (Prod.fst (Prod.snd (Prod.snd (Prod.snd (Prod.snd (Prod.snd (g6_0 x1)))))))), Prod.fst (Prod.snd (Prod.snd (Prod.fst (Prod.snd (Prod.snd (Prod.snd (Prod.snd (Prod.snd (g6_0 x1))))))))), ()), Prod.fst (Prod.snd (Prod.snd (Prod.snd (Prod.snd (Prod.snd (Prod.snd (g6_0 x1))))))), (Prod.fst (Prod.fst (Prod.snd (Prod.snd (Prod.snd (Prod.snd (Prod.snd (Prod.snd (Prod.snd (g6_0 x1))))))))), Prod.fst (Prod.snd (Prod.fst (Prod.snd (Prod.snd (Prod.snd (Prod.snd (Prod.snd (Prod.snd (Prod.snd (g6_0 x1)))))))))), Prod.fst (Prod.snd (Prod.snd (Prod.fst (Prod.snd (Prod.snd (Prod.snd (Prod.snd (Prod.snd (Prod.snd (Prod.snd (g6_0 x1))))))))))), Prod.fst (Prod.snd (Prod.snd (Prod.snd (Prod.fst (Prod.snd (Prod.snd (Prod.snd (Prod.snd (Prod.snd (Prod.snd (Prod.snd (g6_0 x1)))))))))))), ()), Prod.fst (Prod.snd (Prod.snd (Prod.snd (Prod.snd (Prod.snd (Prod.snd (Prod.snd (Prod.snd (g6_0 x1))))))))), Prod.fst (Prod.snd (Prod.snd (Prod.snd (Prod.snd (Prod.snd (Prod.snd (Prod.snd (Prod.snd (Prod.snd (g6_0 x1)))))))))), Prod.fst (Prod.snd (Prod.snd (Prod.snd (Prod.snd (Prod.snd (Prod.snd (Prod.snd (Prod.snd (Prod.snd (Prod.snd (g6_0 x1))))))))))), Prod.fst (Prod.snd (Prod.snd (Prod.snd (Prod.snd (Prod.snd (Prod.snd (Prod.snd (Prod.snd (Prod.snd (Prod.snd (Prod.snd (g6_0 x1)))))))))))), ()) == g5_0 (g6_0 x0) (g6_0 x1)) = true
      · try simp only [if_pos b2] at h ⊢
        exact AtV.fin Try.func3 tabOk ext3Ok mixed (p3_2 x0 x1) ⟨s0, b0, s1, b1, s2, s3, trivial, s4, s5, trivial, b2, trivial⟩
      · try simp only [if_neg b2] at h ⊢
        replace b2 := Bool.eq_false_iff.2 b2
        obtain ⟨s6, h⟩ := h
        by_cases b3 : (!g8_0 (Prod.fst (g6_0 x0), (Prod.fst (Prod.fst (Prod.snd (g6_0 x0))), Prod.fst (Prod.snd (Prod.fst (Prod.snd (g6_0 x0)))), Prod.fst (Prod.snd (Prod.snd (Prod.fst (Prod.snd (g6_0 x0))))), Prod.fst (Prod.snd (Prod.snd (Prod.snd (Prod.fst (Prod.snd (g6_0 x0)))))), ()), Prod.fst (Prod.snd (Prod.snd (g6_0 x0))), Prod.fst (Prod.snd (Prod.snd (Prod.snd (g6_0 x0)))), (Prod.fst (Prod.fst (Prod.snd (Prod.snd (Prod.snd (Prod.snd (g6_0 x0)))))), Prod.fst (Prod.snd (Prod.fst (Prod.snd (Prod.snd (Prod.snd (Prod.snd (g6_0 x0))))))), Prod.fst (Prod.snd (Prod.snd (Prod.fst (Prod.snd (Prod.snd (Prod.snd (Prod.snd (g6_0 x0)))))))), ()), (Prod.fst (Prod.fst (Prod.snd (Prod.snd (Prod.snd (Prod.snd (Prod.snd (g6_0 x0))))))), Prod.fst (Prod.snd (Prod.fst (Prod.snd (Prod.snd (Prod.snd (Prod.snd (Prod.snd (g6_0 x0)))))))), Prod.fst (Prod.snd (Prod.snd (Prod.fst (Prod.snd (Prod.snd (Prod.snd (Prod.snd (Prod.snd (g6_0 x0))))))))), ()), Prod.fst (Prod.snd (Prod.snd (Prod.snd (Prod.snd (Prod.snd (Prod.snd (g6_0 x0))))))), (Prod.fst (Prod.fst (Prod.snd (Prod.snd (Prod.snd (Prod.snd (Prod.snd (Prod.snd (Prod.snd (g6_0 x0))))))))), Prod.fst (Prod.snd (Prod.fst (Prod.snd (Prod.snd (Prod.snd (Prod.snd (Prod.snd (Prod.snd (Prod.snd (g6_0 x0)))))))))), Prod.fst (Prod.snd (Prod.snd (Prod.fst (Prod.snd (Prod.snd (Prod.snd (Prod.snd (Prod.snd (Prod.snd (Prod.snd (g6_0 x0))))))))))), Prod.fst (Prod.snd (Prod.snd (Prod.snd (Prod.fst (Prod.snd (Prod.snd (Prod.snd (Prod.snd (Prod.snd (Prod.snd (Prod.snd (g6_0 x0)))))))))))), ()), Prod.fst (Prod.snd (Prod.snd (Prod.snd (Prod.snd (Prod.snd (Prod.snd (Prod.snd (Prod.snd (g6_0 x0))))))))), Prod.fst (Prod.snd (Prod.snd (Prod.snd (Prod.snd (Prod.snd (Prod.snd (Prod.snd (Prod.snd (Prod.snd (g6_0 x0)))))))))), Prod.fst (Prod.snd (Prod.snd (Prod.snd (Prod.snd (Prod.snd (Prod.snd (Prod.snd (Prod.snd (Prod.snd (Prod.snd (g6_0 x0))))))))))), Prod.fst (Prod.snd (Prod.snd (Prod.snd (Prod.snd (Prod.snd (Prod.snd (Prod.snd (Prod.snd (Prod.snd (Prod.snd (Prod.snd (g6_0 x0)))))))))))), ()) (g6_0 x0)) = true
        · try simp only [if_pos b3] at h ⊢
          exact AtV.fin Try.func3 tabOk ext3Ok mixed (p3_3 x0 x1) ⟨s0, b0, s1, b1, s2, s3, trivial, s4, s5, trivial, b2, s6, trivial, b3, trivial⟩
        · try simp only [if_neg b3] at h ⊢
          replace b3 := Bool.eq_false_iff.2 b3
          obtain ⟨s7, h⟩ := h
          by_cases b4 : (!g8_0 (Prod.fst (g6_0 x1), (Prod.fst (Prod.fst (Prod.snd (g6_0 x1))), Prod.fst (Prod.snd (Prod.fst (Prod.snd (g6_0 x1)))), Prod.fst (Prod.snd (Prod.snd (Prod.fst (Prod.snd (g6_0 x1))))), Prod.fst (Prod.snd (Prod.snd (Prod.snd (Prod.fst (Prod.snd (g6_0 x1)))))), ()), Prod.fst (Prod.snd (Prod.snd (g6_0 x1))), Prod.fst (Prod.snd (Prod.snd (Prod.snd (g6_0 x1)))), (Prod.fst (Prod.fst (Prod.snd (Prod.snd (Prod.snd (Prod.snd (g6_0 x1)))))), Prod.fst (Prod.snd (Prod.fst (Prod.snd (Prod.snd (Prod.snd (Prod.snd (g6_0 x1))))))), Prod.fst (Prod.snd (Prod.snd (Prod.fst (Prod.snd (Prod.snd (Prod.snd (Prod.snd (g6_0 x1)))))))), ()), (Prod.fst (Prod.fst (Prod.snd (Prod.snd (Prod.snd (Prod.snd (Prod.snd (g6_0 x1))))))), Prod.fst (Prod.snd (Prod.fst (Prod.snd (Prod.snd (Prod.snd (Prod.snd (Prod.snd (g6_0 x1)))))))), Prod.fst (Prod.snd (Prod.snd (Prod.fst (Prod.snd (Prod.snd (Prod.snd (Prod.snd (Prod.snd (g6_0 x1))))))))), ()), Prod.fst (Prod.snd (Prod.snd (Prod.snd (Prod.snd (Prod.snd (Prod.snd (g6_0 x1))))))), (Prod.fst (Prod.fst (Prod.snd (Prod.snd (Prod.snd (Prod.snd (Prod.snd (Prod.snd (Prod.snd (g6_0 x1))))))))), Prod.fst (Prod.snd (Prod.fst (Prod.snd (Prod.snd (Prod.snd (Prod.snd (Prod.snd (Prod.snd (Prod.snd (g6_0 x1)))))))))), Prod.fst (Prod.snd (Prod.snd (Prod.fst (Prod.snd (Prod.snd (Prod.snd (Prod.snd (Prod.snd (Prod.snd (Prod.snd (g6_0 x1))))))))))), Prod.fst (Prod.snd (Prod.snd (Prod.snd (Prod.fst (Prod.snd (Prod.snd (Prod.snd (Prod.snd (Prod.snd (Prod.snd (Prod.snd (g6_0 x1)))))))))))), ()), Prod.fst (Prod.snd (Prod.snd (Prod.snd (Prod.snd (Prod.snd (Prod.snd (Prod.snd (Prod.snd (g6_0 x1))))))))), Prod.fst (Prod.snd (Prod.snd (Prod.snd (Prod.snd (Prod.snd (Prod.snd (Prod.snd (Prod.snd (Prod.snd (g6_0 x1)))))))))), Prod.fst (Prod.snd (Prod.snd (Prod.snd (Prod.snd (Prod.snd (Prod.snd (Prod.snd (Prod.snd (Prod.snd (Prod.snd (g6_0 x1))))))))))), Prod.fst (Prod.snd (Prod.snd (Prod.snd (Prod.snd (Prod.snd (Prod.snd (Prod.snd (Prod.snd (Prod.snd (Prod.snd (Prod.snd (g6_0 x1)))))))))))), ()) (g6_0 x1)) = true
          · try simp only [if_pos b4] at h ⊢
            exact AtV.fin Try.func3 tabOk ext3Ok mixed (p3_4 x0 x1) ⟨s0, b0, s1, b1, s2, s3, trivial, s4, s5, trivial, b2, s6, trivial, b3, s7, trivial, b4, trivial⟩
          · try simp only [if_neg b4] at h ⊢
            replace b4 := Bool.eq_false_iff.2 b4
            exact AtV.fin Try.func3 tabOk ext3Ok mixed (p3_5 x0 x1) ⟨s0, b0, s1, b1, s2, s3, trivial, s4, s5, trivial, b2, s6, trivial, b3, s7, trivial, b4, trivial⟩

def S3 : Am.Spec := { sig := sig3, pre := fun ⟨x0, x1, _⟩ => P3 x0 x1, res := fun ⟨x0, x1, _⟩ => [⟨Ty.bool, g3_0 x0 x1⟩], kds := kds3 }
theorem con3 : Contract Try.prog 3 S3 := contract_of Try.func3 hb3 (Nat.le_of_ble_eq_true (by kernel_rfl)) (fun ⟨x0, x1, _⟩ h _ K q => at3 x0 x1 h K q)


end Go.Proofs.Ytpcfcplggpchjaa

/- A law that says how functions of the program and of the specification hang together. -/
set_option linter.unusedVariables false
set_option linter.unusedSimpArgs false
set_option maxRecDepth 100000
namespace Go.Proofs.Ytpcfcplggpchjaa
open Go Go.Am Go.Proofs

theorem szs_Bend (xs : List (ByteArray × Int × Int × Int × Unit)) (l : Int) (h0 : 0 ≤ l) (hi : l ≤ 1048576) (hw : Wf (.sl (.cons .str (.cons (.int .i64) (.cons (.int .i64) (.cons (.int .i64) .unit))))) xs) : P9 xs l ∧ (¬ g9_0 xs l < 0 → g9_0 xs l ≤ l - xs.length) := by
  have hi' : InR .i64 l := by rw [i64_iff]; omega
  exact ⟨h0, fun hg => g9_le xs l h0 hi' hw hg⟩

theorem szs_Hour (xs : List (Int × Int × Int × Unit)) (l : Int) (h0 : 0 ≤ l) (hi : l ≤ 1048576) (hw : Wf (.sl (.cons (.int .i64) (.cons (.int .i64) (.cons (.int .i64) .unit)))) xs) : P10 xs l ∧ (¬ g10_0 xs l < 0 → g10_0 xs l ≤ l - xs.length) := by
  have hi' : InR .i64 l := by rw [i64_iff]; omega
  have hm : xs.length ≤ 9223372036854775807 := hw.1
  refine ⟨⟨by rw [i64_iff]; omega, trivial⟩, fun hg => (g10_le xs l h0 hi' hw hg).2⟩

theorem szs_Limit (xs : List (Int × Int × Int × Unit)) (l : Int) (h0 : 0 ≤ l) (hi : l ≤ 1048576) (hw : Wf (.sl (.cons (.int .i64) (.cons (.int .i64) (.cons (.int .i64) .unit)))) xs) : P11 xs l ∧ (¬ g11_0 xs l < 0 → g11_0 xs l ≤ l - xs.length) := by
  have hi' : InR .i64 l := by rw [i64_iff]; omega
  have hm : xs.length ≤ 9223372036854775807 := hw.1
  refine ⟨⟨by rw [i64_iff]; omega, trivial⟩, fun hg => (g11_le xs l h0 hi' hw hg).2⟩

theorem szs_Worker (xs : List (ByteArray × Int × Int × Unit)) (l : Int) (h0 : 0 ≤ l) (hi : l ≤ 1048576) (hw : Wf (.sl (.cons .str (.cons (.int .i64) (.cons (.int .i64) .unit)))) xs) : P12 xs l ∧ (¬ g12_0 xs l < 0 → g12_0 xs l ≤ l - xs.length) := by
  have hi' : InR .i64 l := by rw [i64_iff]; omega
  exact ⟨h0, fun hg => g12_le xs l h0 hi' hw hg⟩

theorem szs_Fare (xs : List (ByteArray × Int × Int × Int × Unit)) (l : Int) (h0 : 0 ≤ l) (hi : l ≤ 1048576) (hw : Wf (.sl (.cons .str (.cons (.int .i64) (.cons (.int .i64) (.cons (.int .i64) .unit))))) xs) : P13 xs l ∧ (¬ g13_0 xs l < 0 → g13_0 xs l ≤ l - xs.length) := by
  have hi' : InR .i64 l := by rw [i64_iff]; omega
  exact ⟨h0, fun hg => g13_le xs l h0 hi' hw hg⟩

theorem szs_Test (xs : List (Int × Int × Int × Unit)) (l : Int) (h0 : 0 ≤ l) (hi : l ≤ 1048576) (hw : Wf (.sl (.cons (.int .i64) (.cons (.int .i64) (.cons (.int .i64) .unit)))) xs) : P14 xs l ∧ (¬ g14_0 xs l < 0 → g14_0 xs l ≤ l - xs.length) := by
  have hi' : InR .i64 l := by rw [i64_iff]; omega
  have hm : xs.length ≤ 9223372036854775807 := hw.1
  refine ⟨⟨by rw [i64_iff]; omega, trivial⟩, fun hg => (g14_le xs l h0 hi' hw hg).2⟩

theorem szs_Helper (xs : List (ByteArray × Int × Int × Unit)) (l : Int) (h0 : 0 ≤ l) (hi : l ≤ 1048576) (hw : Wf (.sl (.cons .str (.cons (.int .i64) (.cons (.int .i64) .unit)))) xs) : P15 xs l ∧ (¬ g15_0 xs l < 0 → g15_0 xs l ≤ l - xs.length) := by
  have hi' : InR .i64 l := by rw [i64_iff]; omega
  exact ⟨h0, fun hg => g15_le xs l h0 hi' hw hg⟩

theorem szs_Task (xs : List (ByteArray × Int × Int × Unit)) (l : Int) (h0 : 0 ≤ l) (hi : l ≤ 1048576) (hw : Wf (.sl (.cons .str (.cons (.int .i64) (.cons (.int .i64) .unit)))) xs) : P16 xs l ∧ (¬ g16_0 xs l < 0 → g16_0 xs l ≤ l - xs.length) := by
  have hi' : InR .i64 l := by rw [i64_iff]; omega
  exact ⟨h0, fun hg => g16_le xs l h0 hi' hw hg⟩

theorem sz_desk (x : (TyA0)) (l : Int) (h0 : 0 ≤ l) (hi : l ≤ 1048576) (hw : Wf (.cons (.sl (.cons .str (.cons (.int .i64) (.cons (.int .i64) (.cons (.int .i64) .unit))))) (.cons (.cons (.int .i64) (.cons (.int .i64) (.cons (.int .i64) (.cons (.int .i64) .unit)))) (.cons (.sl (.cons (.int .i64) (.cons (.int .i64) (.cons (.int .i64) .unit)))) (.cons (.sl (.cons (.int .i64) (.cons (.int .i64) (.cons (.int .i64) .unit)))) (.cons (.cons (.int .i64) (.cons (.int .i64) (.cons (.int .i64) .unit))) (.cons (.cons (.int .i64) (.cons (.int .i64) (.cons (.int .i64) .unit))) (.cons (.sl (.cons .str (.cons (.int .i64) (.cons (.int .i64) .unit)))) (.cons (.cons (.int .i64) (.cons (.int .i64) (.cons (.int .i64) (.cons (.int .i64) .unit)))) (.cons (.sl (.cons .str (.cons (.int .i64) (.cons (.int .i64) (.cons (.int .i64) .unit))))) (.cons (.sl (.cons (.int .i64) (.cons (.int .i64) (.cons (.int .i64) .unit)))) (.cons (.sl (.cons .str (.cons (.int .i64) (.cons (.int .i64) .unit)))) (.cons (.sl (.cons .str (.cons (.int .i64) (.cons (.int .i64) .unit)))) .unit)))))))))))) x) : P4 x l ∧ (¬ g4_0 x l < 0 → 0 ≤ g4_0 x l ∧ g4_0 x l ≤ l ∧ (x.1.length : Int) ≤ l ∧ (x.2.2.1.length : Int) ≤ l ∧ (x.2.2.2.1.length : Int) ≤ l ∧ (x.2.2.2.2.2.2.1.length : Int) ≤ l ∧ (x.2.2.2.2.2.2.2.2.1.length : Int) ≤ l ∧ (x.2.2.2.2.2.2.2.2.2.1.length : Int) ≤ l ∧ (x.2.2.2.2.2.2.2.2.2.2.1.length : Int) ≤ l ∧ (x.2.2.2.2.2.2.2.2.2.2.2.1.length : Int) ≤ l) := by
  unfold P4 g4_0
  obtain ⟨p0, q0⟩ := szs_Bend x.1 l (by omega) (by omega) hw.1
  by_cases c0 : (g9_0 x.1 l) < 0
  · simp only [c0, p0, decide_true, decide_false, Bool.false_eq_true, if_true, if_false, and_true, true_and]
    try exact ⟨trivial, fun h => absurd (show (-1 : Int) < 0 by decide) h⟩
    try exact fun h => absurd (show (-1 : Int) < 0 by decide) h
  have r0 := q0 c0
  obtain ⟨p1, q1⟩ := szs_Hour x.2.2.1 (g9_0 x.1 l) (by omega) (by omega) hw.2.2.1
  by_cases c1 : (g10_0 x.2.2.1 (g9_0 x.1 l)) < 0
  · simp only [c0, p0, c1, p1, decide_true, decide_false, Bool.false_eq_true, if_true, if_false, and_true, true_and]
    try exact ⟨trivial, fun h => absurd (show (-1 : Int) < 0 by decide) h⟩
    try exact fun h => absurd (show (-1 : Int) < 0 by decide) h
  have r1 := q1 c1
  obtain ⟨p2, q2⟩ := szs_Limit x.2.2.2.1 (g10_0 x.2.2.1 (g9_0 x.1 l)) (by omega) (by omega) hw.2.2.2.1
  by_cases c2 : (g11_0 x.2.2.2.1 (g10_0 x.2.2.1 (g9_0 x.1 l))) < 0
  · simp only [c0, p0, c1, p1, c2, p2, decide_true, decide_false, Bool.false_eq_true, if_true, if_false, and_true, true_and]
    try exact ⟨trivial, fun h => absurd (show (-1 : Int) < 0 by decide) h⟩
    try exact fun h => absurd (show (-1 : Int) < 0 by decide) h
  have r2 := q2 c2
  obtain ⟨p3, q3⟩ := szs_Worker x.2.2.2.2.2.2.1 (g11_0 x.2.2.2.1 (g10_0 x.2.2.1 (g9_0 x.1 l))) (by omega) (by omega) hw.2.2.2.2.2.2.1
  by_cases c3 : (g12_0 x.2.2.2.2.2.2.1 (g11_0 x.2.2.2.1 (g10_0 x.2.2.1 (g9_0 x.1 l)))) < 0
  · simp only [c0, p0, c1, p1, c2, p2, c3, p3, decide_true, decide_false, Bool.false_eq_true, if_true, if_false, and_true, true_and]
    try exact ⟨trivial, fun h => absurd (show (-1 : Int) < 0 by decide) h⟩
    try exact fun h => absurd (show (-1 : Int) < 0 by decide) h
  have r3 := q3 c3
  obtain ⟨p4, q4⟩ := szs_Fare x.2.2.2.2.2.2.2.2.1 (g12_0 x.2.2.2.2.2.2.1 (g11_0 x.2.2.2.1 (g10_0 x.2.2.1 (g9_0 x.1 l)))) (by omega) (by omega) hw.2.2.2.2.2.2.2.2.1
  by_cases c4 : (g13_0 x.2.2.2.2.2.2.2.2.1 (g12_0 x.2.2.2.2.2.2.1 (g11_0 x.2.2.2.1 (g10_0 x.2.2.1 (g9_0 x.1 l))))) < 0
  · simp only [c0, p0, c1, p1, c2, p2, c3, p3, c4, p4, decide_true, decide_false, Bool.false_eq_true, if_true, if_false, and_true, true_and]
    try exact ⟨trivial, fun h => absurd (show (-1 : Int) < 0 by decide) h⟩
    try exact fun h => absurd (show (-1 : Int) < 0 by decide) h
  have r4 := q4 c4
  obtain ⟨p5, q5⟩ := szs_Test x.2.2.2.2.2.2.2.2.2.1 (g13_0 x.2.2.2.2.2.2.2.2.1 (g12_0 x.2.2.2.2.2.2.1 (g11_0 x.2.2.2.1 (g10_0 x.2.2.1 (g9_0 x.1 l))))) (by omega) (by omega) hw.2.2.2.2.2.2.2.2.2.1
  by_cases c5 : (g14_0 x.2.2.2.2.2.2.2.2.2.1 (g13_0 x.2.2.2.2.2.2.2.2.1 (g12_0 x.2.2.2.2.2.2.1 (g11_0 x.2.2.2.1 (g10_0 x.2.2.1 (g9_0 x.1 l)))))) < 0
  · simp only [c0, p0, c1, p1, c2, p2, c3, p3, c4, p4, c5, p5, decide_true, decide_false, Bool.false_eq_true, if_true, if_false, and_true, true_and]
    try exact ⟨trivial, fun h => absurd (show (-1 : Int) < 0 by decide) h⟩
    try exact fun h => absurd (show (-1 : Int) < 0 by decide) h
  have r5 := q5 c5
  obtain ⟨p6, q6⟩ := szs_Helper x.2.2.2.2.2.2.2.2.2.2.1 (g14_0 x.2.2.2.2.2.2.2.2.2.1 (g13_0 x.2.2.2.2.2.2.2.2.1 (g12_0 x.2.2.2.2.2.2.1 (g11_0 x.2.2.2.1 (g10_0 x.2.2.1 (g9_0 x.1 l)))))) (by omega) (by omega) hw.2.2.2.2.2.2.2.2.2.2.1
  by_cases c6 : (g15_0 x.2.2.2.2.2.2.2.2.2.2.1 (g14_0 x.2.2.2.2.2.2.2.2.2.1 (g13_0 x.2.2.2.2.2.2.2.2.1 (g12_0 x.2.2.2.2.2.2.1 (g11_0 x.2.2.2.1 (g10_0 x.2.2.1 (g9_0 x.1 l))))))) < 0
  · simp only [c0, p0, c1, p1, c2, p2, c3, p3, c4, p4, c5, p5, c6, p6, decide_true, decide_false, Bool.false_eq_true, if_true, if_false, and_true, true_and]
    try exact ⟨trivial, fun h => absurd (show (-1 : Int) < 0 by decide) h⟩
    try exact fun h => absurd (show (-1 : Int) < 0 by decide) h
  have r6 := q6 c6
  obtain ⟨p7, q7⟩ := szs_Task x.2.2.2.2.2.2.2.2.2.2.2.1 (g15_0 x.2.2.2.2.2.2.2.2.2.2.1 (g14_0 x.2.2.2.2.2.2.2.2.2.1 (g13_0 x.2.2.2.2.2.2.2.2.1 (g12_0 x.2.2.2.2.2.2.1 (g11_0 x.2.2.2.1 (g10_0 x.2.2.1 (g9_0 x.1 l))))))) (by omega) (by omega) hw.2.2.2.2.2.2.2.2.2.2.2.1
  by_cases c7 : (g16_0 x.2.2.2.2.2.2.2.2.2.2.2.1 (g15_0 x.2.2.2.2.2.2.2.2.2.2.1 (g14_0 x.2.2.2.2.2.2.2.2.2.1 (g13_0 x.2.2.2.2.2.2.2.2.1 (g12_0 x.2.2.2.2.2.2.1 (g11_0 x.2.2.2.1 (g10_0 x.2.2.1 (g9_0 x.1 l)))))))) < 0
  · simp only [c0, p0, c1, p1, c2, p2, c3, p3, c4, p4, c5, p5, c6, p6, c7, p7, decide_true, decide_false, Bool.false_eq_true, if_true, if_false, and_true, true_and]
    try exact ⟨trivial, fun h => absurd (show (-1 : Int) < 0 by decide) h⟩
    try exact fun h => absurd (show (-1 : Int) < 0 by decide) h
  have r7 := q7 c7
  simp only [c0, p0, c1, p1, c2, p2, c3, p3, c4, p4, c5, p5, c6, p6, c7, p7, decide_false, Bool.false_eq_true, if_false, and_true, true_and]
  intro _
  omega

theorem to_desk (x : (TyA0)) (h : (x.1.length : Int) ≤ 1048576 ∧ (x.2.2.1.length : Int) ≤ 1048576 ∧ (x.2.2.2.1.length : Int) ≤ 1048576 ∧ (x.2.2.2.2.2.2.1.length : Int) ≤ 1048576 ∧ (x.2.2.2.2.2.2.2.2.1.length : Int) ≤ 1048576 ∧ (x.2.2.2.2.2.2.2.2.2.1.length : Int) ≤ 1048576 ∧ (x.2.2.2.2.2.2.2.2.2.2.1.length : Int) ≤ 1048576 ∧ (x.2.2.2.2.2.2.2.2.2.2.2.1.length : Int) ≤ 1048576) : P6 x ∧ g6_0 x = x := by
  obtain ⟨l0, l1, l2, l3, l4, l5, l6, l7⟩ := h
  refine ⟨?_, rfl⟩
  unfold P6 P18 P20 P21 P24 P26 P27 P28 P29
  refine ⟨by omega, by omega, by omega, by omega, by omega, by omega, by omega, by omega, trivial⟩

theorem eq_desk (x : (TyA0)) : g8_0 x x = true := by
  simp [g8_0, g38_0, g40_0, g41_0, g44_0, g46_0, g47_0, g48_0, g49_0, g39_0, g42_0, g43_0, g45_0]

end Go.Proofs.Ytpcfcplggpchjaa

/- The plain law of FnExactSameDesk. -/
set_option linter.unusedVariables false
set_option linter.unusedSimpArgs false
set_option maxRecDepth 100000
namespace Go.Proofs.Ytpcfcplggpchjaa
open Go Go.Am Go.Proofs

theorem if_and_desk {c : Prop} [Decidable c] {a b : Bool} (h : (if c then a else b) = true) (hb : b = false) : c ∧ a = true := by
  by_cases hc : c
  · rw [if_pos hc] at h; exact ⟨hc, h⟩
  · rw [if_neg hc, hb] at h; cases h

theorem same_desk (x y : (TyA0)) : g7_0 x y = g5_0 x y := by
  have hf : ∀ {t : Ty} {x : t.den}, t.flat = true → eqD t x x = true := fun ht => (eqD_eq ht).2 rfl
  by_cases h : x = y
  · subst h
    have e : g5_0 x x = true := by unfold g5_0; exact @decide_eq_true _ (decD5 _ _) rfl
    rw [e]
    unfold g7_0
    simp only [g30_0, g31_0, g32_0, g33_0, g34_0, g35_0, g36_0, g37_0, decide_true, if_true]
    rw [if_pos (hf rfl), if_pos (hf rfl), if_pos (hf rfl), if_pos (hf rfl)]
  · have e : g5_0 x y = false := by unfold g5_0; exact @decide_eq_false _ (decD5 _ _) h
    rw [e, Bool.eq_false_iff]
    intro hg
    apply h
    unfold g7_0 at hg
    obtain ⟨cBends, hg⟩ := if_and_desk hg (by simp only [ite_self])
    obtain ⟨cRope, hg⟩ := if_and_desk hg (by simp only [ite_self])
    obtain ⟨cHours, hg⟩ := if_and_desk hg (by simp only [ite_self])
    obtain ⟨cLimits, hg⟩ := if_and_desk hg (by simp only [ite_self])
    obtain ⟨cMotor, hg⟩ := if_and_desk hg (by simp only [ite_self])
    obtain ⟨cWorkers, hg⟩ := if_and_desk hg (by simp only [ite_self])
    obtain ⟨cBasin, hg⟩ := if_and_desk hg (by simp only [ite_self])
    obtain ⟨cDoor, hg⟩ := if_and_desk hg (by simp only [ite_self])
    obtain ⟨cFares, hg⟩ := if_and_desk hg (by simp only [ite_self])
    obtain ⟨cTests, hg⟩ := if_and_desk hg (by simp only [ite_self])
    obtain ⟨cHelpers, hg⟩ := if_and_desk hg (by simp only [ite_self])
    refine Prod.ext ?_ (Prod.ext ?_ (Prod.ext ?_ (Prod.ext ?_ (Prod.ext ?_ (Prod.ext ?_ (Prod.ext ?_ (Prod.ext ?_ (Prod.ext ?_ (Prod.ext ?_ (Prod.ext ?_ (Prod.ext ?_ rfl)))))))))))
    · exact of_decide_eq_true cBends
    · exact (eqD_eq rfl).1 cRope
    · exact of_decide_eq_true cHours
    · exact of_decide_eq_true cLimits
    · exact (eqD_eq rfl).1 cDoor
    · exact (eqD_eq rfl).1 cMotor
    · exact of_decide_eq_true cWorkers
    · exact (eqD_eq rfl).1 cBasin
    · exact of_decide_eq_true cFares
    · exact of_decide_eq_true cTests
    · exact of_decide_eq_true cHelpers
    · exact of_decide_eq_true hg

theorem law3 (x y : (TyA0)) (hx : Wf (.cons (.sl (.cons .str (.cons (.int .i64) (.cons (.int .i64) (.cons (.int .i64) .unit))))) (.cons (.cons (.int .i64) (.cons (.int .i64) (.cons (.int .i64) (.cons (.int .i64) .unit)))) (.cons (.sl (.cons (.int .i64) (.cons (.int .i64) (.cons (.int .i64) .unit)))) (.cons (.sl (.cons (.int .i64) (.cons (.int .i64) (.cons (.int .i64) .unit)))) (.cons (.cons (.int .i64) (.cons (.int .i64) (.cons (.int .i64) .unit))) (.cons (.cons (.int .i64) (.cons (.int .i64) (.cons (.int .i64) .unit))) (.cons (.sl (.cons .str (.cons (.int .i64) (.cons (.int .i64) .unit)))) (.cons (.cons (.int .i64) (.cons (.int .i64) (.cons (.int .i64) (.cons (.int .i64) .unit)))) (.cons (.sl (.cons .str (.cons (.int .i64) (.cons (.int .i64) (.cons (.int .i64) .unit))))) (.cons (.sl (.cons (.int .i64) (.cons (.int .i64) (.cons (.int .i64) .unit)))) (.cons (.sl (.cons .str (.cons (.int .i64) (.cons (.int .i64) .unit)))) (.cons (.sl (.cons .str (.cons (.int .i64) (.cons (.int .i64) .unit)))) .unit)))))))))))) x) (hy : Wf (.cons (.sl (.cons .str (.cons (.int .i64) (.cons (.int .i64) (.cons (.int .i64) .unit))))) (.cons (.cons (.int .i64) (.cons (.int .i64) (.cons (.int .i64) (.cons (.int .i64) .unit)))) (.cons (.sl (.cons (.int .i64) (.cons (.int .i64) (.cons (.int .i64) .unit)))) (.cons (.sl (.cons (.int .i64) (.cons (.int .i64) (.cons (.int .i64) .unit)))) (.cons (.cons (.int .i64) (.cons (.int .i64) (.cons (.int .i64) .unit))) (.cons (.cons (.int .i64) (.cons (.int .i64) (.cons (.int .i64) .unit))) (.cons (.sl (.cons .str (.cons (.int .i64) (.cons (.int .i64) .unit)))) (.cons (.cons (.int .i64) (.cons (.int .i64) (.cons (.int .i64) (.cons (.int .i64) .unit)))) (.cons (.sl (.cons .str (.cons (.int .i64) (.cons (.int .i64) (.cons (.int .i64) .unit))))) (.cons (.sl (.cons (.int .i64) (.cons (.int .i64) (.cons (.int .i64) .unit)))) (.cons (.sl (.cons .str (.cons (.int .i64) (.cons (.int .i64) .unit)))) (.cons (.sl (.cons .str (.cons (.int .i64) (.cons (.int .i64) .unit)))) .unit)))))))))))) y) : P3 x y ∧ g3_0 x y = true := by
  obtain ⟨p1, q1⟩ := sz_desk x 1048576 (by decide) (by decide) hx
  by_cases c1 : g4_0 x 1048576 < 0
  · unfold P3 g3_0
    simp only [c1, p1, decide_true, if_true, and_self]
  obtain ⟨r1, s1, t1⟩ := q1 c1
  obtain ⟨p2, q2⟩ := sz_desk y (g4_0 x 1048576) r1 s1 hy
  by_cases c2 : g4_0 y (g4_0 x 1048576) < 0
  · unfold P3 g3_0
    simp only [c1, p1, c2, p2, decide_true, decide_false, Bool.false_eq_true, if_true, if_false, and_self]
  obtain ⟨r2, s2, t2⟩ := q2 c2
  obtain ⟨a1, e1⟩ := to_desk x (by omega)
  obtain ⟨a2, e2⟩ := to_desk y (by omega)
  have f1 := eq_desk x
  have f2 := eq_desk y
  have k := same_desk x y
  unfold P3 g3_0
  clear q1 q2 hx hy r1 s1 t1 r2 s2 t2
  simp only [e1, e2, c1, c2, p1, p2, a1, a2, f1, f2, k, decide_false, Bool.false_eq_true, if_false, true_and, and_true, Bool.not_true]
  cases g5_0 _ _ <;> simp

end Go.Proofs.Ytpcfcplggpchjaa
