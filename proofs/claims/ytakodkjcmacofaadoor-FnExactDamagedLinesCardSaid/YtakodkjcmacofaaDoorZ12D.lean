/- Several texts in one: the functions that this law reaches, and their laws. -/
import Derived.Test.YtakodkjcmacofaaDoorZ12A
import Derived.Test.YtakodkjcmacofaaDoorZ12B
import Derived.Test.YtakodkjcmacofaaDoorZ12C
import Derived.Lib.IndexAny
import Derived.Lib.IndexMore
import Derived.Lib.ItoaNum

/- Function 61 (laws.markInt64S): its runs between cut points. Written by a program of this repo (gen). -/
set_option linter.unusedVariables false
set_option linter.unusedSimpArgs false
set_option maxRecDepth 100000
namespace Go.Proofs.YtakodkjcmacofaaDoor
open Go Go.Am Go.Proofs
def ext61 : Ext := []
theorem ext61Ok : ExtOk Tryd.prog ext61 := trivial
/-! Function 61. -/
noncomputable def b61 : Code := bodyOf Tryd.f61
theorem hb61 : Tryd.f61.body = some b61 := by kernel_rfl
def sig61 : List AT := [AT.own (Ty.int IntKind.i64), AT.v (Ty.int IntKind.i64)]
def tys61 : List Ty := [Ty.int IntKind.i64]
def E61_2 (v5 : Int) (x1 : Int) (x0 : List Int) : Env := [(0, PV.a (Atom.osl 0 Option.none)), (1, PV.a (Atom.val (Value.int IntKind.i64 x1))), (5, PV.a (Atom.val (Value.int IntKind.i64 v5)))]
def L61_2 (v5 : Int) (x1 : Int) (x0 : List Int) : Heap := [Option.some (Arr.mk (Ty.int IntKind.i64) x0 Bool.false)]
mutual
def R61 : Nat → List Int → Int → List Dyn → List (Option Lst) → Prop
  | 0, _, _, _, _ => False
  | n + 1, x0, x1, ds, us => (R61_2 n (0) (x1) (x0) ds us)
def R61_2 : Nat → Int → Int → List Int → List Dyn → List (Option Lst) → Prop
  | 0, _, _, _, _, _ => False
  | n + 1, v5, x1, x0, ds, us => (if (Decidable.decide (v5 < (↑(List.length x0) : Int))) = true then ((0 ≤ v5) ∧ (v5 < (↑(List.length x0) : Int)) ∧ ((InR IntKind.i64 (x1 + 1)) ∧ ((InR IntKind.i64 (v5 + 1)) ∧ (R61_2 n (v5 + 1) (x1 + 1) (List.set x0 (Int.toNat v5) x1) ds us)))) else (ds = [Dyn.mk (Ty.int IntKind.i64) x1] ∧ us = [Option.some (Lst.mk (Ty.int IntKind.i64) x0)]))
end
theorem p61_0 (x0 : List Int) (x1 : Int) : Am.runN tab ext61 false 19 [] 2000 [0] [] [0, 1, 5] [0] [] [.code b61] (entE 0 0 sig61 (x0, x1, ())) (entL sig61 (x0, x1, ())) = some (cutAt b61 2, E61_2 (0) (x1) (x0), L61_2 (0) (x1) (x0), []) := by kernel_rfl
theorem p61_1 (v5 : Int) (x1 : Int) (x0 : List Int) : Am.runN tab ext61 false 19 [] 2000 [0] [] [0, 1, 5] [0] [true] (cutAt b61 2) (E61_2 v5 x1 x0) (L61_2 v5 x1 x0) = some (cutAt b61 2, E61_2 (v5 + 1) (x1 + 1) (List.set x0 (Int.toNat v5) x1), L61_2 (v5 + 1) (x1 + 1) (List.set x0 (Int.toNat v5) x1), [Decidable.decide (v5 < (↑(List.length x0) : Int)) = Bool.true, 0 ≤ v5, v5 < (↑(List.length x0) : Int), InR IntKind.i64 (x1 + 1), InR IntKind.i64 (v5 + 1)]) := by kernel_rfl
theorem p61_2 (v5 : Int) (x1 : Int) (x0 : List Int) : runF tab ext61 false 19 [] 2000 [0] tys61 Tryd.f61.results [false] (cutAt b61 2) (E61_2 v5 x1 x0) (L61_2 v5 x1 x0) = some ([Dyn.mk (Ty.int IntKind.i64) x1], [Option.some (Lst.mk (Ty.int IntKind.i64) x0)], [Decidable.decide (v5 < (↑(List.length x0) : Int)) = Bool.false]) := by kernel_rfl
theorem snd61 : ∀ n, (∀ (x0 : List Int) (x1 : Int) ds us, R61 n x0 x1 ds us → ∀ w0 O q, AtV Tryd.prog 61 (PostR ds us [0] q w0 O) 19 w0 O q [0] [.code b61] (entE 0 0 sig61 (x0, x1, ())) (entL sig61 (x0, x1, ()))) ∧ (∀ (v5 : Int) (x1 : Int) (x0 : List Int) ds us, R61_2 n v5 x1 x0 ds us → ∀ w0 O q, AtV Tryd.prog 61 (PostR ds us [0] q w0 O) 19 w0 O q [0] (cutAt b61 2) (E61_2 v5 x1 x0) (L61_2 v5 x1 x0)) := by
  intro n
  induction n with
  | zero => exact ⟨fun _ _ _ _ h => by simp only [R61] at h, fun _ _ _ _ _ h => by simp only [R61_2] at h⟩
  | succ n ih =>
  obtain ⟨ih, ih2⟩ := ih
  refine ⟨?_, ?_⟩
  · intro x0 x1 ds us h w0 O q
    rw [R61] at h
    exact AtV.runN tabOk ext61Ok mixed (p61_0 x0 x1) trivial (ih2 _ _ _ _ _ h w0 O q)

  · intro v5 x1 x0 ds us h w0 O q
    rw [R61_2] at h
    by_cases b0 : (Decidable.decide (v5 < (↑(List.length x0) : Int))) = true
    · rw [if_pos b0] at h
      obtain ⟨s0, s1, h⟩ := h
      obtain ⟨s2, h⟩ := h
      obtain ⟨s3, h⟩ := h
      exact AtV.runN tabOk ext61Ok mixed (p61_1 v5 x1 x0) ⟨b0, s0, s1, s2, s3, trivial⟩ (ih2 _ _ _ _ _ h w0 O q)
    · rw [if_neg b0] at h
      replace b0 := Bool.eq_false_iff.2 b0
      obtain ⟨h, h'⟩ := h; subst h; subst h'
      exact AtV.fin Tryd.func61 tabOk ext61Ok mixed (p61_2 v5 x1 x0) ⟨b0, trivial⟩



def M61 (x1 : Int) (n : Nat) : List Int := (List.range n).map fun (j : Nat) => x1 + (j : Int)

theorem M61_len (x1 : Int) (n : Nat) : (M61 x1 n).length = n := by simp [M61]

theorem M61_step (x1 : Int) (x0 : List Int) (i : Nat) (h : i < x0.length) : (M61 x1 i ++ x0.drop i).set i (x1 + (i : Int)) = M61 x1 (i + 1) ++ x0.drop (i + 1) := by
  rw [List.set_append_right _ _ (by rw [M61_len]; exact Nat.le_refl _), M61_len, Nat.sub_self, List.drop_eq_getElem_cons h, List.set_cons_zero]
  simp [M61, List.range_succ]

theorem run61 (x0 : List Int) (x1 : Int) (hm : x0.length ≤ maxLen) (h0 : 0 ≤ x1) (h1 : x1 + x0.length ≤ 9223372036854775807) : ∀ (k i : Nat), i + k = x0.length →
    R61_2 (k + 1) (i : Int) (x1 + (i : Int)) (M61 x1 i ++ x0.drop i) [⟨.int .i64, x1 + (x0.length : Int)⟩] [some ⟨.int .i64, M61 x1 x0.length⟩] := by
  intro k
  induction k with
  | zero =>
    intro i hi
    have hl : (M61 x1 i ++ x0.drop i).length = x0.length := by simp [M61_len]; omega
    rw [R61_2, if_neg (by rw [hl]; simp; omega), drop_end x0 i (by omega), List.append_nil]
    have : i = x0.length := by omega
    subst this
    exact ⟨rfl, rfl⟩
  | succ k ih =>
    intro i hi
    have hl : (M61 x1 i ++ x0.drop i).length = x0.length := by simp [M61_len]; omega
    rw [R61_2, if_pos (by rw [hl]; simp; omega), hl]
    simp only [Int.toNat_natCast]
    refine ⟨by omega, by omega, by rw [i64_iff]; omega, inR_up hm (by omega), ?_⟩
    rw [M61_step x1 x0 i (by omega), Int.add_assoc]
    exact ih (i + 1) (by omega)

def P61 (x0 : List Int) (x1 : Int) : Prop := 0 ≤ x1 ∧ x1 + x0.length ≤ 9223372036854775807
def g61_0 (x0 : List Int) (x1 : Int) : Int := x1 + (x0.length : Int)
def u61_0 (x0 : List Int) (x1 : Int) : List Int := M61 x1 x0.length

theorem top61 (x0 : List Int) (x1 : Int) (hm : x0.length ≤ maxLen) (h : P61 x0 x1) : R61 (x0.length + 1 + 1) x0 x1 [⟨.int .i64, g61_0 x0 x1⟩] [some ⟨.int .i64, u61_0 x0 x1⟩] := by
  rw [R61]
  have := run61 x0 x1 hm h.1 h.2 x0.length 0 (by omega)
  simpa [M61, g61_0, u61_0] using this

def S61 : Am.Spec := { sig := sig61, pre := fun ⟨x0, x1, _⟩ => P61 x0 x1, upd := fun ⟨x0, x1, _⟩ => [some ⟨.int .i64, u61_0 x0 x1⟩], res := fun ⟨x0, x1, _⟩ => [⟨.int .i64, g61_0 x0 x1⟩] }
theorem con61 : Contract Tryd.prog 61 S61 := contract_of Tryd.func61 hb61 (Nat.le_of_ble_eq_true (by kernel_rfl)) (fun ⟨x0, x1, _⟩ h hwf w0 O q =>
  (snd61 _).1 x0 x1 _ _ (top61 x0 x1 hwf.1.1 h) w0 O q)

end Go.Proofs.YtakodkjcmacofaaDoor

/- Function 62 (laws.heldInt64S): its runs between cut points. Written by a program of this repo (gen). -/
set_option linter.unusedVariables false
set_option linter.unusedSimpArgs false
set_option maxRecDepth 100000
namespace Go.Proofs.YtakodkjcmacofaaDoor
open Go Go.Am Go.Proofs
def ext62 : Ext := []
theorem ext62Ok : ExtOk Tryd.prog ext62 := trivial
/-! Function 62. -/
noncomputable def b62 : Code := bodyOf Tryd.f62
theorem hb62 : Tryd.f62.body = some b62 := by kernel_rfl
def sig62 : List AT := [AT.v (Ty.sl (Ty.int IntKind.i64)), AT.v (Ty.int IntKind.i64)]
def tys62 : List Ty := [Ty.int IntKind.i64]
def E62_2 (v5 : Int) (x0 : List Int) (x1 : Int) : Env := [(0, PV.a (Atom.sl (Ty.int IntKind.i64) x0)), (1, PV.a (Atom.val (Value.int IntKind.i64 x1))), (5, PV.a (Atom.val (Value.int IntKind.i64 v5)))]
def L62_2 (v5 : Int) (x0 : List Int) (x1 : Int) : Heap := []
mutual
def R62 : Nat → List Int → Int → List Dyn → Prop
  | 0, _, _, _ => False
  | n + 1, x0, x1, ds => (R62_2 n (0) (x0) (x1) ds)
def R62_2 : Nat → Int → List Int → Int → List Dyn → Prop
  | 0, _, _, _, _ => False
  | n + 1, v5, x0, x1, ds => (if (Decidable.decide (v5 < (↑(List.length x0) : Int))) = true then ((0 ≤ v5) ∧ (v5 < (↑(List.length x0) : Int)) ∧ (if (List.getD x0 (Int.toNat v5) 0 != x1) = true then (ds = [Dyn.mk (Ty.int IntKind.i64) (-1)]) else ((InR IntKind.i64 (x1 + 1)) ∧ ((InR IntKind.i64 (v5 + 1)) ∧ (R62_2 n (v5 + 1) (x0) (x1 + 1) ds))))) else (ds = [Dyn.mk (Ty.int IntKind.i64) x1]))
end
theorem p62_0 (x0 : List Int) (x1 : Int) : Am.runN tab ext62 false 21 [] 2000 [] [] [0, 1, 5] [] [] [.code b62] (entE 0 0 sig62 (x0, x1, ())) (entL sig62 (x0, x1, ())) = some (cutAt b62 2, E62_2 (0) (x0) (x1), L62_2 (0) (x0) (x1), []) := by kernel_rfl
theorem p62_1 (v5 : Int) (x0 : List Int) (x1 : Int) : runF tab ext62 false 21 [] 2000 [] tys62 Tryd.f62.results [true, true] (cutAt b62 2) (E62_2 v5 x0 x1) (L62_2 v5 x0 x1) = some ([Dyn.mk (Ty.int IntKind.i64) (-1)], [], [Decidable.decide (v5 < (↑(List.length x0) : Int)) = Bool.true, 0 ≤ v5, v5 < (↑(List.length x0) : Int), (List.getD x0 (Int.toNat v5) 0 != x1) = Bool.true]) := by kernel_rfl
theorem p62_2 (v5 : Int) (x0 : List Int) (x1 : Int) : Am.runN tab ext62 false 21 [] 2000 [] [] [0, 1, 5] [] [true, false] (cutAt b62 2) (E62_2 v5 x0 x1) (L62_2 v5 x0 x1) = some (cutAt b62 2, E62_2 (v5 + 1) (x0) (x1 + 1), L62_2 (v5 + 1) (x0) (x1 + 1), [Decidable.decide (v5 < (↑(List.length x0) : Int)) = Bool.true, 0 ≤ v5, v5 < (↑(List.length x0) : Int), (List.getD x0 (Int.toNat v5) 0 != x1) = Bool.false, InR IntKind.i64 (x1 + 1), InR IntKind.i64 (v5 + 1)]) := by kernel_rfl
theorem p62_3 (v5 : Int) (x0 : List Int) (x1 : Int) : runF tab ext62 false 21 [] 2000 [] tys62 Tryd.f62.results [false] (cutAt b62 2) (E62_2 v5 x0 x1) (L62_2 v5 x0 x1) = some ([Dyn.mk (Ty.int IntKind.i64) x1], [], [Decidable.decide (v5 < (↑(List.length x0) : Int)) = Bool.false]) := by kernel_rfl
theorem snd62 : ∀ n, (∀ (x0 : List Int) (x1 : Int) ds, R62 n x0 x1 ds → ∀ w0 O q, AtV Tryd.prog 62 (PostR ds [] [] q w0 O) 21 w0 O q [] [.code b62] (entE 0 0 sig62 (x0, x1, ())) (entL sig62 (x0, x1, ()))) ∧ (∀ (v5 : Int) (x0 : List Int) (x1 : Int) ds, R62_2 n v5 x0 x1 ds → ∀ w0 O q, AtV Tryd.prog 62 (PostR ds [] [] q w0 O) 21 w0 O q [] (cutAt b62 2) (E62_2 v5 x0 x1) (L62_2 v5 x0 x1)) := by
  intro n
  induction n with
  | zero => exact ⟨fun _ _ _ h => by simp only [R62] at h, fun _ _ _ _ h => by simp only [R62_2] at h⟩
  | succ n ih =>
  obtain ⟨ih, ih2⟩ := ih
  refine ⟨?_, ?_⟩
  · intro x0 x1 ds h w0 O q
    rw [R62] at h
    exact AtV.runN tabOk ext62Ok mixed (p62_0 x0 x1) trivial (ih2 _ _ _ _ h w0 O q)

  · intro v5 x0 x1 ds h w0 O q
    rw [R62_2] at h
    by_cases b0 : (Decidable.decide (v5 < (↑(List.length x0) : Int))) = true
    · rw [if_pos b0] at h
      obtain ⟨s0, s1, h⟩ := h
      by_cases b1 : (List.getD x0 (Int.toNat v5) 0 != x1) = true
      · rw [if_pos b1] at h
        subst h
        exact AtV.fin Tryd.func62 tabOk ext62Ok mixed (p62_1 v5 x0 x1) ⟨b0, s0, s1, b1, trivial⟩
      · rw [if_neg b1] at h
        replace b1 := Bool.eq_false_iff.2 b1
        obtain ⟨s2, h⟩ := h
        obtain ⟨s3, h⟩ := h
        exact AtV.runN tabOk ext62Ok mixed (p62_2 v5 x0 x1) ⟨b0, s0, s1, b1, s2, s3, trivial⟩ (ih2 _ _ _ _ h w0 O q)
    · rw [if_neg b0] at h
      replace b0 := Bool.eq_false_iff.2 b0
      subst h
      exact AtV.fin Tryd.func62 tabOk ext62Ok mixed (p62_3 v5 x0 x1) ⟨b0, trivial⟩



theorem run62 (x0 : List Int) (x1 : Int) (hm : x0.length ≤ maxLen) (h0 : 0 ≤ x1) (h1 : x1 + x0.length ≤ 9223372036854775807) (he : ∀ i : Nat, i < x0.length → x0.getD i 0 = x1 + (i : Int)) : ∀ (k i : Nat), i + k = x0.length →
    R62_2 (k + 1) (i : Int) x0 (x1 + (i : Int)) [⟨.int .i64, x1 + (x0.length : Int)⟩] := by
  intro k
  induction k with
  | zero =>
    intro i hi
    rw [R62_2, if_neg (by simp; omega)]
    have : i = x0.length := by omega
    subst this
    rfl
  | succ k ih =>
    intro i hi
    rw [R62_2, if_pos (by simp; omega)]
    simp only [Int.toNat_natCast]
    have hb := he i (by omega)
    refine ⟨by omega, by omega, ?_⟩
    rw [if_neg (by simp only [hb, bne_self_eq_false, Bool.false_eq_true, not_false_eq_true])]
    refine ⟨by rw [i64_iff]; omega, inR_up hm (by omega), ?_⟩
    rw [Int.add_assoc]
    exact ih (i + 1) (by omega)

def P62 (x0 : List Int) (x1 : Int) : Prop := (0 ≤ x1 ∧ x1 + x0.length ≤ 9223372036854775807) ∧ ∀ i : Nat, i < x0.length → x0.getD i 0 = x1 + (i : Int)
def g62_0 (x0 : List Int) (x1 : Int) : Int := x1 + (x0.length : Int)

theorem top62 (x0 : List Int) (x1 : Int) (hm : x0.length ≤ maxLen) (h : P62 x0 x1) : R62 (x0.length + 1 + 1) x0 x1 [⟨.int .i64, g62_0 x0 x1⟩] := by
  rw [R62]
  have := run62 x0 x1 hm h.1.1 h.1.2 h.2 x0.length 0 (by omega)
  simpa [g62_0] using this

def S62 : Am.Spec := { sig := sig62, pre := fun ⟨x0, x1, _⟩ => P62 x0 x1, res := fun ⟨x0, x1, _⟩ => [⟨.int .i64, g62_0 x0 x1⟩] }
theorem con62 : Contract Tryd.prog 62 S62 := contract_of Tryd.func62 hb62 (Nat.le_of_ble_eq_true (by kernel_rfl)) (fun ⟨x0, x1, _⟩ h hwf w0 O q =>
  (snd62 _).1 x0 x1 _ (top62 x0 x1 hwf.1.1 h) w0 O q)

end Go.Proofs.YtakodkjcmacofaaDoor

/- Function 12 (laws.FnExactDamagedLines): its runs between cut points. Written by a program of this repo (gen). -/
set_option linter.unusedVariables false
set_option linter.unusedSimpArgs false
set_option maxRecDepth 100000
namespace Go.Proofs.YtakodkjcmacofaaDoor
open Go Go.Am Go.Proofs
def ext12 : Ext := [(58, S58), (59, S59), (60, S60), (61, S61), (62, S62)]
theorem call12_58 : Callable Tryd.prog 58 := ⟨Tryd.f58, Tryd.func58, by kernel_rfl, by kernel_rfl⟩
theorem call12_59 : Callable Tryd.prog 59 := ⟨Tryd.f59, Tryd.func59, by kernel_rfl, by kernel_rfl⟩
theorem call12_60 : Callable Tryd.prog 60 := ⟨Tryd.f60, Tryd.func60, by kernel_rfl, by kernel_rfl⟩
theorem call12_61 : Callable Tryd.prog 61 := ⟨Tryd.f61, Tryd.func61, by kernel_rfl, by kernel_rfl⟩
theorem call12_62 : Callable Tryd.prog 62 := ⟨Tryd.f62, Tryd.func62, by kernel_rfl, by kernel_rfl⟩
theorem ext12Ok : ExtOk Tryd.prog ext12 := ⟨⟨call12_58, con58⟩, ⟨call12_59, con59⟩, ⟨call12_60, con60⟩, ⟨call12_61, con61⟩, ⟨call12_62, con62⟩, trivial⟩
/-! Function 12. -/
noncomputable def b12 : Code := bodyOf Tryd.f12
theorem hb12 : Tryd.f12.body = some b12 := by kernel_rfl
def sig12 : List AT := [AT.v (Ty.str)]
def tys12 : List Ty := [Ty.bool]
def P12 (x0 : ByteArray) : Prop := (if (Decidable.decide ((↑(ByteArray.size x0) : Int) > 1048576)) = true then True else ((P58 x0) ∧ ((P59 x0) ∧ (if (!g60_0 (g59_0 x0) (g58_0 x0)) = true then True else ((P61 (g59_0 x0) 1) ∧ (List.length (u61_0 (g59_0 x0) 1) = List.length (g59_0 x0)) ∧ ((P62 (u61_0 (g59_0 x0) 1) 1) ∧ (if (Decidable.decide (g62_0 (u61_0 (g59_0 x0) 1) 1 < 0)) = true then True else (if (g62_0 (u61_0 (g59_0 x0) 1) 1 != g61_0 (g59_0 x0) 1) = true then True else ((P59 x0) ∧ ((P62 (u61_0 (g59_0 x0) 1) 1) ∧ True))))))))))
def g12_0 (x0 : ByteArray) : Bool := (if (Decidable.decide ((↑(ByteArray.size x0) : Int) > 1048576)) = true then Bool.true else (if (!g60_0 (g59_0 x0) (g58_0 x0)) = true then Bool.false else (if (Decidable.decide (g62_0 (u61_0 (g59_0 x0) 1) 1 < 0)) = true then Bool.false else (if (g62_0 (u61_0 (g59_0 x0) 1) 1 != g61_0 (g59_0 x0) 1) = true then Bool.false else Bool.true))))
theorem p12_0 (x0 : ByteArray) : runF tab ext12 false 44 [] 2000 [] tys12 Tryd.f12.results [true] [.code b12] (entE 0 0 sig12 (x0, ())) (entL sig12 (x0, ())) = some ([Dyn.mk Ty.bool Bool.true], [], [Decidable.decide ((↑(ByteArray.size x0) : Int) > 1048576) = Bool.true]) := by kernel_rfl
theorem p12_1 (x0 : ByteArray) : runF tab ext12 false 44 [] 2000 [] tys12 Tryd.f12.results [false, true] [.code b12] (entE 0 0 sig12 (x0, ())) (entL sig12 (x0, ())) = some ([Dyn.mk Ty.bool Bool.false], [], [Decidable.decide ((↑(ByteArray.size x0) : Int) > 1048576) = Bool.false, P58 x0, P59 x0, True, (!g60_0 (g59_0 x0) (g58_0 x0)) = Bool.true]) := by kernel_rfl
theorem p12_2 (x0 : ByteArray) : runF tab ext12 false 44 [] 2000 [] tys12 Tryd.f12.results [false, false, true] [.code b12] (entE 0 0 sig12 (x0, ())) (entL sig12 (x0, ())) = some ([Dyn.mk Ty.bool Bool.false], [], [Decidable.decide ((↑(ByteArray.size x0) : Int) > 1048576) = Bool.false, P58 x0, P59 x0, True, (!g60_0 (g59_0 x0) (g58_0 x0)) = Bool.false, P61 (g59_0 x0) 1, List.length (u61_0 (g59_0 x0) 1) = List.length (g59_0 x0), P62 (u61_0 (g59_0 x0) 1) 1, Decidable.decide (g62_0 (u61_0 (g59_0 x0) 1) 1 < 0) = Bool.true]) := by kernel_rfl
theorem p12_3 (x0 : ByteArray) : runF tab ext12 false 44 [] 2000 [] tys12 Tryd.f12.results [false, false, false, true] [.code b12] (entE 0 0 sig12 (x0, ())) (entL sig12 (x0, ())) = some ([Dyn.mk Ty.bool Bool.false], [], [Decidable.decide ((↑(ByteArray.size x0) : Int) > 1048576) = Bool.false, P58 x0, P59 x0, True, (!g60_0 (g59_0 x0) (g58_0 x0)) = Bool.false, P61 (g59_0 x0) 1, List.length (u61_0 (g59_0 x0) 1) = List.length (g59_0 x0), P62 (u61_0 (g59_0 x0) 1) 1, Decidable.decide (g62_0 (u61_0 (g59_0 x0) 1) 1 < 0) = Bool.false, (g62_0 (u61_0 (g59_0 x0) 1) 1 != g61_0 (g59_0 x0) 1) = Bool.true]) := by kernel_rfl
theorem p12_4 (x0 : ByteArray) : runF tab ext12 false 44 [] 2000 [] tys12 Tryd.f12.results [false, false, false, false, false, false, false] [.code b12] (entE 0 0 sig12 (x0, ())) (entL sig12 (x0, ())) = some ([Dyn.mk Ty.bool Bool.true], [], [Decidable.decide ((↑(ByteArray.size x0) : Int) > 1048576) = Bool.false, P58 x0, P59 x0, True, (!g60_0 (g59_0 x0) (g58_0 x0)) = Bool.false, P61 (g59_0 x0) 1, List.length (u61_0 (g59_0 x0) 1) = List.length (g59_0 x0), P62 (u61_0 (g59_0 x0) 1) 1, Decidable.decide (g62_0 (u61_0 (g59_0 x0) 1) 1 < 0) = Bool.false, (g62_0 (u61_0 (g59_0 x0) 1) 1 != g61_0 (g59_0 x0) 1) = Bool.false, P59 x0, True, (!g60_0 (g59_0 x0) (g58_0 x0)) = Bool.false, P62 (u61_0 (g59_0 x0) 1) 1, Decidable.decide (g62_0 (u61_0 (g59_0 x0) 1) 1 < 0) = Bool.false, (g62_0 (u61_0 (g59_0 x0) 1) 1 != g61_0 (g59_0 x0) 1) = Bool.false]) := by kernel_rfl
theorem at12 (x0 : ByteArray) (h : P12 x0) (w0 : World) (O : List Nat) (q : Nat → Value) : AtV Tryd.prog 12 (PostR [⟨Ty.bool, g12_0 x0⟩] [] [] q w0 O) 44 w0 O q [] [.code b12] (entE 0 0 sig12 (x0, ())) (entL sig12 (x0, ())) := by
  unfold P12 at h
  unfold g12_0
  by_cases b0 : (Decidable.decide ((↑(ByteArray.size x0) : Int) > 1048576)) = true
  · try simp only [if_pos b0] at h ⊢
    exact AtV.fin Tryd.func12 tabOk ext12Ok mixed (p12_0 x0) ⟨b0, trivial⟩
  · try simp only [if_neg b0] at h ⊢
    replace b0 := Bool.eq_false_iff.2 b0
    obtain ⟨s0, h⟩ := h
    obtain ⟨s1, h⟩ := h
    by_cases b1 : (!g60_0 (g59_0 x0) (g58_0 x0)) = true
    · try simp only [if_pos b1] at h ⊢
      exact AtV.fin Tryd.func12 tabOk ext12Ok mixed (p12_1 x0) ⟨b0, s0, s1, trivial, b1, trivial⟩
    · try simp only [if_neg b1] at h ⊢
      replace b1 := Bool.eq_false_iff.2 b1
      obtain ⟨s2, s3, h⟩ := h
      obtain ⟨s4, h⟩ := h
      by_cases b2 : (Decidable.decide (g62_0 (u61_0 (g59_0 x0) 1) 1 < 0)) = true
      · try simp only [if_pos b2] at h ⊢
        exact AtV.fin Tryd.func12 tabOk ext12Ok mixed (p12_2 x0) ⟨b0, s0, s1, trivial, b1, s2, s3, s4, b2, trivial⟩
      · try simp only [if_neg b2] at h ⊢
        replace b2 := Bool.eq_false_iff.2 b2
        by_cases b3 : (g62_0 (u61_0 (g59_0 x0) 1) 1 != g61_0 (g59_0 x0) 1) = true
        · try simp only [if_pos b3] at h ⊢
          exact AtV.fin Tryd.func12 tabOk ext12Ok mixed (p12_3 x0) ⟨b0, s0, s1, trivial, b1, s2, s3, s4, b2, b3, trivial⟩
        · try simp only [if_neg b3] at h ⊢
          replace b3 := Bool.eq_false_iff.2 b3
          obtain ⟨s5, h⟩ := h
          obtain ⟨s6, h⟩ := h
          exact AtV.fin Tryd.func12 tabOk ext12Ok mixed (p12_4 x0) ⟨b0, s0, s1, trivial, b1, s2, s3, s4, b2, b3, s5, trivial, b1, s6, b2, b3, trivial⟩

def S12 : Am.Spec := { sig := sig12, pre := fun ⟨x0, _⟩ => P12 x0, res := fun ⟨x0, _⟩ => [⟨Ty.bool, g12_0 x0⟩] }
theorem con12 : Contract Tryd.prog 12 S12 := contract_of Tryd.func12 hb12 (Nat.le_of_ble_eq_true (by kernel_rfl)) (fun ⟨x0, _⟩ h _ w0 O q => at12 x0 h w0 O q)


end Go.Proofs.YtakodkjcmacofaaDoor

/- A law that says how functions of the program and of the specification hang together. -/
set_option linter.unusedVariables false
set_option linter.unusedSimpArgs false
set_option maxRecDepth 100000
namespace Go.Proofs.YtakodkjcmacofaaDoor
open Go Go.Am Go.Proofs

theorem name_eq (s : ByteArray) : g151_0 s = g148_0 s := by
  have hs : ∀ c, g175_0 c = (decide (97 ≤ c) && decide (c ≤ 122)) := fun c => by
    unfold g175_0
    by_cases h1 : (97 : Int) ≤ c <;> simp [h1]
  have hd : ∀ c, g67_0 c = (decide (48 ≤ c) && decide (c ≤ 57)) := fun c => by
    unfold g67_0
    by_cases h1 : (48 : Int) ≤ c <;> simp [h1]
  unfold g151_0 g148_0
  have hl := bytesOf_length s
  by_cases h1 : 1 ≤ s.size
  · cases hb : bytesOf s with
    | nil => rw [hb] at hl; simp at hl; omega
    | cons c r =>
      have hr : allI ok151 1 r = r.all fun b => g175_0 b || g67_0 b := by
        rw [← allI_plain (fun b => g175_0 b || g67_0 b) r 1]
        refine allI_congr r 1 fun j x hj => ?_
        have : (j == 0) = false := by simp; omega
        simp only [ok151, this, hs, hd, Bool.not_false, Bool.true_and]
      have h0 : ok151 0 c = g175_0 c := by simp [ok151, hs]
      simp only [allI, hr, h0, List.all_cons, List.getD_cons_zero]
      cases g175_0 c <;> simp
  · simp [h1]

theorem index_one (c : UInt8) : ∀ s : List UInt8, Lib.index s [c] = Lib.indexByte s c
  | [] => rfl
  | b :: l => by
    have e : (List.isPrefixOf [c] (b :: l)) = (b == c) := by
      simp only [List.isPrefixOf, Bool.and_true]
      exact Bool.beq_comm
    rw [Lib.index, Lib.indexByte, index_one c l, e]

theorem contains_one (s : List UInt8) (c : UInt8) : Lib.contains s [c] = s.contains c := by
  rw [Lib.contains_iff_indexByte, Lib.contains, index_one]

theorem contains_nl (s : ByteArray) : (!g163_0 s (ByteArray.mk #[10])) = (bytesOf s).all fun b => !(b == 10) := by
  unfold g163_0
  rw [show (ByteArray.mk #[10]).data.toList = [10] from rfl, contains_one]
  show (!s.data.toList.contains 10) = ((s.data.toList.map fun b => (b.toNat : Int)).all fun b => !(b == 10))
  induction s.data.toList with
  | nil => rfl
  | cons c r ih =>
    rw [List.contains_cons, Bool.not_or, ih, List.map_cons, List.all_cons]
    congr 2
    by_cases h : c = 10
    · subst h; rfl
    · have h1 : ((10 : UInt8) == c) = false := by simp; exact fun e => h e.symm
      have h2 : ((c.toNat : Int) == 10) = false := by
        rw [beq_eq_false_iff_ne]
        intro e
        exact h (UInt8.toNat_inj.1 (by show c.toNat = 10; omega))
      rw [h1, h2]

theorem block_eq (x : ByteArray × ByteArray × ByteArray × Unit) : g138_0 x = g135_0 x := by
  obtain ⟨a, b, t, u⟩ := x
  unfold g138_0 g135_0
  simp only [name_eq, ← contains_nl]
  have hc : decide ((t.size : Int) ≤ 400) = decide (t.size ≤ 400) := by
    congr 1; exact propext ⟨fun h => by omega, fun h => by omega⟩
  rw [hc]
  cases g148_0 a <;> cases g148_0 b <;> cases decide (t.size ≤ 400) <;> cases g163_0 t (ByteArray.mk #[10]) <;> rfl

end Go.Proofs.YtakodkjcmacofaaDoor

/- A law that says how functions of the program and of the specification hang together. -/
set_option linter.unusedVariables false
set_option linter.unusedSimpArgs false
set_option maxRecDepth 100000
namespace Go.Proofs.YtakodkjcmacofaaDoor
open Go Go.Am Go.Proofs

/-- A digit. -/
def isD (b : UInt8) : Prop := 48 ≤ b.toNat ∧ b.toNat ≤ 57
/-- The value of digits. -/
def dval : List UInt8 → Nat → Nat
  | [], n => n
  | b :: r, n => dval r (10 * n + (b.toNat - 48))
theorem dval_append : ∀ (l : List UInt8) (b : UInt8) (n : Nat), dval (l ++ [b]) n = 10 * dval l n + (b.toNat - 48)
  | [], _, _ => rfl
  | c :: r, b, n => dval_append r b _
theorem dval_pos : ∀ (l : List UInt8) (n : Nat), 1 ≤ n → 1 ≤ dval l n
  | [], _, h => h
  | b :: r, n, h => dval_pos r _ (by omega)

theorem dsign_nat {a : Nat} (h : a < 10) : (UInt8.ofNat (48 + a)).toNat = 48 + a := by rw [UInt8.toNat_ofNat']; omega

theorem dec_facts (n : Nat) : (∀ b ∈ Lib.decDigits n, isD b) ∧ dval (Lib.decDigits n) 0 = n ∧ 0 < (Lib.decDigits n).length ∧ (1 ≤ n → ((Lib.decDigits n).getD 0 0).toNat ≠ 48) := by
  induction n using Nat.strongRecOn with
  | _ n ih =>
    by_cases h : n < 10
    · rw [Lib.decDigits, dif_pos h]
      have e := dsign_nat h
      refine ⟨fun b hb => ?_, ?_, by simp, fun h1 => ?_⟩
      · rw [List.mem_singleton.1 hb]; unfold isD; omega
      · show 10 * 0 + ((UInt8.ofNat (48 + n)).toNat - 48) = n; omega
      · show (UInt8.ofNat (48 + n)).toNat ≠ 48; omega
    · rw [Lib.decDigits, dif_neg h]
      obtain ⟨i1, i2, i3, i4⟩ := ih (n / 10) (by omega)
      have e := dsign_nat (a := n % 10) (by omega)
      refine ⟨fun b hb => ?_, ?_, by simp, fun h1 => ?_⟩
      · rcases List.mem_append.1 hb with hb | hb
        · exact i1 b hb
        · rw [List.mem_singleton.1 hb]; unfold isD; omega
      · rw [dval_append, i2, e]; omega
      · have i4 := i4 (by omega)
        cases hd : Lib.decDigits (n / 10) with
        | nil => rw [hd] at i3; simp at i3
        | cons c r => rw [hd] at i4; exact i4

theorem dec_canon (n : Nat) : ∀ l : List UInt8, l.length = n → (∀ b ∈ l, isD b) → 0 < l.length → ((l.getD 0 0).toNat ≠ 48 ∨ l.length = 1) → Lib.decDigits (dval l 0) = l := by
  induction n with
  | zero => intro l hl _ h0 _; omega
  | succ n ih =>
    intro l hl hd h0 hc
    rcases List.eq_nil_or_concat l with rfl | ⟨l', b, rfl⟩
    · simp at h0
    · rw [List.concat_eq_append] at *
      have hb : isD b := hd b (by simp)
      unfold isD at hb
      rw [dval_append]
      cases l' with
      | nil =>
        rw [Lib.decDigits, dif_pos (by show 10 * 0 + (b.toNat - 48) < 10; omega)]
        show [UInt8.ofNat (48 + (10 * 0 + (b.toNat - 48)))] = [b]
        congr 1
        rw [← UInt8.toNat_inj, UInt8.toNat_ofNat']; omega
      | cons c r =>
        have hc' : c.toNat ≠ 48 := by
          rcases hc with hc | hc
          · exact hc
          · simp at hc
        have hcd : isD c := hd c (by simp)
        unfold isD at hcd
        have hp : 1 ≤ dval (c :: r) 0 := dval_pos r _ (by omega)
        have hi := ih (c :: r) (by simp at hl ⊢; omega) (fun x hx => hd x (List.mem_append_left _ hx)) (by simp) (.inl hc')
        rw [Lib.decDigits, dif_neg (by omega), show (10 * dval (c :: r) 0 + (b.toNat - 48)) / 10 = dval (c :: r) 0 by omega, hi, show (10 * dval (c :: r) 0 + (b.toNat - 48)) % 10 = b.toNat - 48 by omega]
        congr 2
        rw [← UInt8.toNat_inj, UInt8.toNat_ofNat']; omega

theorem dec_len : ∀ (k n : Nat), n < 10 ^ (k + 1) → (Lib.decDigits n).length ≤ k + 1
  | 0, n, h => by rw [Lib.decDigits, dif_pos (by simpa using h)]; simp
  | k + 1, n, h => by
    rw [Lib.decDigits]
    split
    · simp
    · have := dec_len k (n / 10) (by rw [Nat.pow_succ] at h; omega)
      simp; omega


end Go.Proofs.YtakodkjcmacofaaDoor

/- A law that says how functions of the program and of the specification hang together. -/
set_option linter.unusedVariables false
set_option linter.unusedSimpArgs false
set_option maxRecDepth 100000
namespace Go.Proofs.YtakodkjcmacofaaDoor
open Go Go.Am Go.Proofs

/-- The last d digits of a number, zeros ahead. -/
def pz : Nat → Nat → List UInt8
  | 0, _ => []
  | d + 1, n => pz d (n / 10) ++ [UInt8.ofNat (48 + n % 10)]

theorem pz_len : ∀ d n, (pz d n).length = d
  | 0, _ => rfl
  | d + 1, n => by rw [pz, List.length_append, pz_len d]; rfl

theorem pz_zero : ∀ d, pz d 0 = List.replicate d 48
  | 0 => rfl
  | d + 1 => by
    rw [pz, Nat.zero_div, pz_zero d, List.replicate_succ']
    rfl

/-- One ahead of the digits. -/
theorem dec_ahead : ∀ (d n : Nat), n < 10 ^ d → Lib.decDigits (n + 10 ^ d) = 49 :: pz d n
  | 0, n, h => by
    obtain rfl : n = 0 := by simpa using h
    rw [Lib.decDigits, dif_pos (by decide)]
    rfl
  | d + 1, n, h => by
    have hp : 1 ≤ 10 ^ d := Nat.one_le_pow _ _ (by decide)
    rw [Nat.pow_succ] at h ⊢
    have ih := dec_ahead d (n / 10) (by omega)
    rw [Lib.decDigits, dif_neg (by omega), show (n + 10 ^ d * 10) / 10 = n / 10 + 10 ^ d by omega, show (n + 10 ^ d * 10) % 10 = n % 10 by omega, ih, pz]
    rfl

theorem dec_zeros : ∀ (d n : Nat), 1 ≤ d → n < 10 ^ d → List.replicate (d - (Lib.decDigits n).length) 48 ++ Lib.decDigits n = pz d n
  | 0, _, h, _ => by omega
  | d + 1, n, _, h => by
    rw [pz]
    by_cases hs : n < 10
    · rw [Lib.decDigits, dif_pos hs, show n / 10 = 0 by omega, show n % 10 = n by omega, pz_zero]
      rfl
    · rw [Nat.pow_succ] at h
      have hd : 1 ≤ d := by
        rcases Nat.eq_zero_or_pos d with rfl | hd
        · simp at h; omega
        · exact hd
      have ih := dec_zeros d (n / 10) hd (by omega)
      rw [Lib.decDigits, dif_neg hs, List.length_append, List.length_singleton, Nat.add_sub_add_right, ← List.append_assoc, ih]

/-- The number of digits with zeros ahead. -/
theorem pz_all : ∀ (d n : Nat), ∀ b ∈ pz d n, isD b
  | 0, _, b, hb => by cases hb
  | d + 1, n, b, hb => by
    rw [pz] at hb
    rcases List.mem_append.1 hb with hb | hb
    · exact pz_all d _ b hb
    · rw [List.mem_singleton.1 hb]
      have := dsign_nat (a := n % 10) (by omega)
      unfold isD
      omega

theorem pz_val : ∀ (d n : Nat), n < 10 ^ d → ∀ m, dval (pz d n) m = m * 10 ^ d + n
  | 0, n, h, m => by
    obtain rfl : n = 0 := by simpa using h
    show m = _
    simp
  | d + 1, n, h, m => by
    rw [pz, dval_append, Nat.pow_succ] at *
    rw [pz_val d (n / 10) (by omega), dsign_nat (by omega), Nat.mul_add, ← Nat.mul_assoc]
    rw [show 10 * m * 10 ^ d = m * (10 ^ d * 10) by rw [Nat.mul_comm 10 m, Nat.mul_assoc, Nat.mul_comm 10]]
    omega

/-- Digits are their value with zeros ahead. -/
theorem pz_of (d : Nat) : ∀ l : List UInt8, l.length = d → (∀ b ∈ l, isD b) → pz d (dval l 0) = l ∧ dval l 0 < 10 ^ d := by
  induction d with
  | zero => intro l hl _; rw [List.length_eq_zero_iff] at hl; subst hl; exact ⟨rfl, by decide⟩
  | succ d ih =>
    intro l hl hd
    rcases List.eq_nil_or_concat l with rfl | ⟨l', b, rfl⟩
    · cases hl
    · rw [List.concat_eq_append] at *
      have hb : isD b := hd b (by simp)
      unfold isD at hb
      obtain ⟨i1, i2⟩ := ih l' (by simpa using hl) (fun x hx => hd x (List.mem_append_left _ hx))
      rw [dval_append, pz, Nat.pow_succ, show (10 * dval l' 0 + (b.toNat - 48)) / 10 = dval l' 0 by omega, i1, show (10 * dval l' 0 + (b.toNat - 48)) % 10 = b.toNat - 48 by omega]
      refine ⟨?_, by omega⟩
      congr 2
      rw [← UInt8.toNat_inj, UInt8.toNat_ofNat']; omega

end Go.Proofs.YtakodkjcmacofaaDoor

/- A law that says how functions of the program and of the specification hang together. -/
set_option linter.unusedVariables false
set_option linter.unusedSimpArgs false
set_option maxRecDepth 100000
namespace Go.Proofs.YtakodkjcmacofaaDoor
open Go Go.Am Go.Proofs

theorem bvn (a : Nat) (h : a < 9223372036854775808) : (BitVec.ofInt 64 (a : Int)).toNat = a := by
  rw [BitVec.toNat_ofInt]
  omega

theorem wrn (a : Nat) (h : a < 9223372036854775808) : IntKind.wrap IntKind.i64 (a : Int) = (a : Int) := wrap_of_inR (by rw [i64_iff]; omega)

theorem bit_bound {s : Int} (h : 0 ≤ s ∧ s ≤ 65535) : 0 ≤ bit146 s ∧ bit146 s ≤ 65535 := by
  obtain ⟨a, rfl⟩ := Int.eq_ofNat_of_zero_le h.1
  unfold bit146
  have e : (a : Int) * 2 = ((a * 2 : Nat) : Int) := by omega
  have e6 : BitVec.ofInt 64 65535 = BitVec.ofInt 64 ((65535 : Nat) : Int) := rfl
  have e7 : BitVec.ofInt 64 4129 = BitVec.ofInt 64 ((4129 : Nat) : Int) := rfl
  rw [e, wrn _ (by omega), e6, e7]
  have h1 : (a * 2) &&& 65535 < 65536 := Nat.lt_of_le_of_lt Nat.and_le_right (by decide)
  have h2 : ((a * 2) &&& 65535) ^^^ 4129 < 2 ^ 16 := Nat.xor_lt_two_pow h1 (by decide)
  split
  · rw [BitVec.toNat_and, bvn (a * 2) (by omega), bvn 65535 (by omega), wrn (a * 2 &&& 65535) (by omega), BitVec.toNat_xor, bvn (a * 2 &&& 65535) (by omega), bvn 4129 (by omega), wrn (a * 2 &&& 65535 ^^^ 4129) (by omega)]
    omega
  · rename_i hc
    have hc' : ¬ ((a * 2 : Nat) : Int) > 65535 := fun hh => hc (decide_eq_true hh)
    omega

theorem bits_bound : ∀ (k : Nat) {s : Int}, 0 ≤ s ∧ s ≤ 65535 → 0 ≤ bits146 k s ∧ bits146 k s ≤ 65535
  | 0, _, h => h
  | k + 1, _, h => bits_bound k (bit_bound h)

theorem byte_bound {s c : Int} (h : 0 ≤ s ∧ s ≤ 65535) (hc : 0 ≤ c ∧ c ≤ 255) : 0 ≤ byte146 s c ∧ byte146 s c ≤ 65535 := by
  refine bits_bound 8 ?_
  obtain ⟨a, rfl⟩ := Int.eq_ofNat_of_zero_le h.1
  obtain ⟨b, rfl⟩ := Int.eq_ofNat_of_zero_le hc.1
  have e : (b : Int) * 256 = ((b * 256 : Nat) : Int) := by omega
  have h2 : a ^^^ (b * 256) < 2 ^ 16 := Nat.xor_lt_two_pow (by omega) (by omega)
  rw [e, wrn (b * 256) (by omega), BitVec.toNat_xor, bvn a (by omega), bvn (b * 256) (by omega), wrn (a ^^^ (b * 256)) (by omega)]
  omega

theorem crc_bound (x : ByteArray) {s : Int} (h : 0 ≤ s ∧ s ≤ 65535) : 0 ≤ g146_0 x s ∧ g146_0 x s ≤ 65535 := by
  unfold g146_0
  have hb := bytesOf_range x
  revert hb
  generalize bytesOf x = l
  revert s
  induction l with
  | nil => intro s h _; exact h
  | cons c r ih =>
    intro s h hb
    rw [List.foldl_cons]
    have hc := hb c (List.mem_cons_self ..)
    exact ih (byte_bound h ⟨hc.1, hc.2⟩) fun b hb' => hb b (List.mem_cons_of_mem _ hb')

theorem crc_eq (x : ByteArray) {s : Int} (h : 0 ≤ s ∧ s ≤ 65535) : g142_0 x s = g146_0 x s := by
  unfold g142_0
  rw [if_neg (by
    have c1 : s ≥ 0 := h.1
    unfold g102_0
    simp [c1, h.2])]
  have e : byte142 = byte146 := by
    funext s c
    unfold byte142 byte146
    have : ∀ (k : Nat) (t : Int), bits142 k t = bits146 k t := by
      intro k
      induction k with
      | zero => intro t; rfl
      | succ k ih => intro t; exact ih _
    exact this 8 _
  rw [e]
  rfl

end Go.Proofs.YtakodkjcmacofaaDoor

/- A law that says how functions of the program and of the specification hang together. -/
set_option linter.unusedVariables false
set_option linter.unusedSimpArgs false
set_option maxRecDepth 100000
namespace Go.Proofs.YtakodkjcmacofaaDoor
open Go Go.Am Go.Proofs

theorem f5_list : ∀ (k : Nat) (l : List UInt8), l.length ≤ 5 → 5 ≤ l.length + k → f5145 k ⟨⟨l⟩⟩ = ⟨⟨List.replicate (5 - l.length) 48 ++ l⟩⟩
  | 0, l, h1, h2 => by
    rw [show 5 - l.length = 0 by omega]
    rfl
  | k + 1, l, h1, h2 => by
    unfold f5145
    have es : (ByteArray.mk ⟨l⟩).size = l.length := rfl
    rw [es]
    split
    · have e : ByteArray.mk #[48] ++ ByteArray.mk ⟨l⟩ = ⟨⟨48 :: l⟩⟩ := by
        apply ByteArray.ext
        apply Array.ext'
        simp [ByteArray.data_append]
      rw [e, f5_list k (48 :: l) (by simp; omega) (by simp; omega)]
      congr 2
      rw [List.length_cons, show 5 - l.length = (5 - (l.length + 1)) + 1 by omega, List.replicate_succ']
      simp
    · rw [show 5 - l.length = 0 by omega]
      rfl

theorem dec_nat (n : Nat) : g129_0 (n : Int) = ⟨⟨Lib.decDigits n⟩⟩ := by
  show numB _ = _
  unfold numB Lib.itoa
  rw [if_neg (by omega), Int.toNat_natCast]

theorem five_pz {n : Nat} (h : n ≤ 65535) : g145_0 (n : Int) = ⟨⟨pz 5 n⟩⟩ := by
  unfold g145_0
  have hl := dec_len 4 n (by omega)
  rw [dec_nat, f5_list 5 _ (by omega) (by omega), dec_zeros 5 n (by decide) (by omega)]

theorem rep_pz {n : Nat} (h : n ≤ 65535) : g143_0 (ByteArray.mk #[48]) (5 - (((g94_0 (n : Int)).size : Nat) : Int)) ++ g94_0 (n : Int) = ⟨⟨pz 5 n⟩⟩ ∧ (((g94_0 (n : Int)).size : Nat) : Int) ≤ 5 ∧ 1 ≤ (((g94_0 (n : Int)).size : Nat) : Int) := by
  have e : g94_0 (n : Int) = ⟨⟨Lib.decDigits n⟩⟩ := dec_nat n
  have hs : (ByteArray.mk ⟨Lib.decDigits n⟩).size = (Lib.decDigits n).length := rfl
  have hl := dec_len 4 n (by omega)
  have h0 := (dec_facts n).2.2.1
  rw [e, hs]
  refine ⟨?_, by omega, by omega⟩
  have hc : (5 : Int) - ((Lib.decDigits n).length : Int) = ((5 - (Lib.decDigits n).length : Nat) : Int) := by omega
  rw [hc]
  apply ByteArray.ext
  apply Array.ext'
  have hr : Lib.repeatL (List.replicate 1 48) (5 - (Lib.decDigits n).length) = List.replicate (5 - (Lib.decDigits n).length) (48 : UInt8) := by
    rw [Lib.repeatL_replicate, Nat.mul_one]
  unfold g143_0
  rw [Int.toNat_natCast, ByteArray.data_append, Array.toList_append]
  show Lib.repeatL [48] _ ++ Lib.decDigits n = _
  have h48 : ([48] : List UInt8) = List.replicate 1 48 := rfl
  rw [h48, hr, dec_zeros 5 n (by decide) (by omega)]

end Go.Proofs.YtakodkjcmacofaaDoor

/- A law that says how functions of the program and of the specification hang together. -/
set_option linter.unusedVariables false
set_option linter.unusedSimpArgs false
set_option maxRecDepth 100000
namespace Go.Proofs.YtakodkjcmacofaaDoor
open Go Go.Am Go.Proofs

def crcN (r : ByteArray) : Nat := (g146_0 r 65535).toNat
theorem crcN_le (r : ByteArray) : crcN r ≤ 65535 := by
  have := crc_bound r (s := 65535) (by decide)
  unfold crcN; omega
theorem crc_s (r : ByteArray) : g146_0 r 65535 = (crcN r : Int) := by
  have := crc_bound r (s := 65535) (by decide)
  unfold crcN; omega
theorem crc_i (r : ByteArray) : g142_0 r 65535 = (crcN r : Int) := by
  rw [crc_eq r (by decide), crc_s]

def restB (b : (ByteArray × ByteArray × ByteArray × Unit)) : List UInt8 := b.1.data.toList ++ 32 :: b.2.1.data.toList ++ 32 :: b.2.2.1.data.toList
theorem rest_eq (b : (ByteArray × ByteArray × ByteArray × Unit)) : Prod.fst b ++ ByteArray.mk #[32] ++ Prod.fst (Prod.snd b) ++ ByteArray.mk #[32] ++ Prod.fst (Prod.snd (Prod.snd b)) = ⟨⟨restB b⟩⟩ := by
  apply ByteArray.ext
  apply Array.ext'
  simp [ByteArray.data_append, restB]

theorem line_eq (b : (ByteArray × ByteArray × ByteArray × Unit)) : g96_0 b = ⟨⟨pz 5 (crcN ⟨⟨restB b⟩⟩) ++ 32 :: restB b⟩⟩ := by
  unfold g96_0
  rw [rest_eq, crc_i, (rep_pz (crcN_le _)).1]
  apply ByteArray.ext
  apply Array.ext'
  simp [ByteArray.data_append]

theorem cut_free {l : List UInt8} (h : (32 : UInt8) ∉ l) : g64_0 ⟨⟨l⟩⟩ (ByteArray.mk #[32]) = ⟨⟨l⟩⟩ ∧ g64_1 ⟨⟨l⟩⟩ (ByteArray.mk #[32]) = ⟨⟨[]⟩⟩ := by
  have hc : Lib.cut (ByteArray.mk ⟨l⟩).data.toList (ByteArray.mk #[32]).data.toList = (l, [], false) := cut_none 32 h
  unfold g64_0 g64_1
  rw [hc]
  exact ⟨rfl, rfl⟩
theorem cut_at {p : List UInt8} (q : List UInt8) (h : (32 : UInt8) ∉ p) : g64_0 ⟨⟨p ++ 32 :: q⟩⟩ (ByteArray.mk #[32]) = ⟨⟨p⟩⟩ ∧ g64_1 ⟨⟨p ++ 32 :: q⟩⟩ (ByteArray.mk #[32]) = ⟨⟨q⟩⟩ := by
  have hc : Lib.cut (ByteArray.mk ⟨p ++ 32 :: q⟩).data.toList (ByteArray.mk #[32]).data.toList = (p, q, true) := cut_hit 32 q h
  unfold g64_0 g64_1
  rw [hc]
  exact ⟨rfl, rfl⟩

theorem nx_free : ∀ {l : List UInt8}, (32 : UInt8) ∉ l → nx119 l = l.length
  | [], _ => rfl
  | b :: r, h => by
    have hb : ¬ b.toNat = 32 := fun e => h (by rw [show b = 32 from UInt8.toNat_inj.1 e]; exact List.mem_cons_self ..)
    unfold nx119
    rw [if_neg hb, nx_free fun hm => h (List.mem_cons_of_mem _ hm)]
    rfl
theorem nx_at : ∀ {p : List UInt8} (q : List UInt8), (32 : UInt8) ∉ p → nx119 (p ++ 32 :: q) = p.length
  | [], q, _ => rfl
  | b :: r, q, h => by
    have hb : ¬ b.toNat = 32 := fun e => h (by rw [show b = 32 from UInt8.toNat_inj.1 e]; exact List.mem_cons_self ..)
    rw [List.cons_append]
    unfold nx119
    rw [if_neg hb, nx_at q fun hm => h (List.mem_cons_of_mem _ hm)]
    rfl

theorem name_none : g148_0 ⟨⟨[]⟩⟩ = false := by rfl

theorem one_none (p t : ByteArray) : g135_0 (p, ⟨⟨[]⟩⟩, t, ()) = false := by
  unfold g135_0
  rw [name_none]
  simp

theorem ext_of (l : List UInt8) (a b : Nat) : ByteArray.extract ⟨⟨l⟩⟩ a b = ⟨⟨(l.drop a).take (b - a)⟩⟩ := Lib.extract_mk l a b

theorem line_parts {x : ByteArray} (h1 : ¬ x.size < 6) (h2 : (x.data.toList.getD 5 0).toNat = 32) : x = ⟨⟨(ByteArray.extract x 0 5).data.toList ++ 32 :: (rs119 x).data.toList⟩⟩ := by
  obtain ⟨⟨l⟩⟩ := x
  have hl : ¬ l.length < 6 := h1
  have h2' : l.getD 5 0 = 32 := UInt8.toNat_inj.1 h2
  have es : (ByteArray.mk ⟨l⟩).size = l.length := rfl
  unfold rs119
  rw [es, ext_of, ext_of]
  congr 2
  have e : l.drop 5 = 32 :: l.drop 6 := by
    have e := drop_get l 5 0 (by omega)
    rw [h2'] at e
    exact e
  have e5 : (l.drop 6).take (l.length - 6) = l.drop 6 := List.take_of_length_le (by rw [List.length_drop]; exact Nat.le_refl _)
  simp only [List.drop_zero, Nat.sub_zero]
  rw [e5, ← e, List.take_append_drop]

theorem parse_eq (x : ByteArray) : g121_0 x = g119_0 x ∧ g121_1 x = g119_1 x := by
  have e0 : ByteArray.extract x 6 x.size = rs119 x := rfl
  unfold g121_0 g121_1 g119_0 g119_1 sum119
  simp only [Int.toNat_natCast, e0]
  by_cases h1 : x.size < 6
  · have c : decide ((x.size : Int) < 6) = true := decide_eq_true (by omega)
    simp only [c, h1, if_true, and_self]
  have c1 : decide ((x.size : Int) < 6) = false := decide_eq_false (by omega)
  by_cases h2 : (x.data.toList.getD 5 0).toNat = 32
  case neg =>
    have c2 : ((((x.data.toList.getD 5 0).toNat : Nat) : Int) != 32) = true := byte119.2 h2
    simp only [c1, h1, c2, h2, if_true, if_false, Bool.false_eq_true, ne_eq, not_false_eq_true, and_self]
  case pos =>
    have c2 : ((((x.data.toList.getD 5 0).toNat : Nat) : Int) != 32) = false := by
      rw [Bool.eq_false_iff]; intro h; exact byte119.1 h h2
    have hx := line_parts h1 h2
    have c32 : (((32 : Nat) : Int) != 32) = false := rfl
    rw [crc_i, crc_s, (rep_pz (crcN_le _)).1, five_pz (crcN_le _)]
    simp only [c1, h1, h2, c32, if_false, Bool.false_eq_true, ne_eq, not_true_eq_false]
    generalize hr : rs119 x = rs at *
    obtain ⟨⟨l⟩⟩ := rs
    by_cases h3 : ByteArray.extract x 0 5 = ⟨⟨pz 5 (crcN ⟨⟨l⟩⟩)⟩⟩
    case neg =>
      have c3 : (!ByteArray.toList (ByteArray.extract x 0 5) == ByteArray.toList ⟨⟨pz 5 (crcN ⟨⟨l⟩⟩)⟩⟩) = true := by
        rw [Bool.not_eq_true', Bool.eq_false_iff]
        intro h; exact h3 ((bytes_eq _ _).1 h)
      simp only [c3, if_true, and_self]
    case pos =>
      rw [h3] at hx ⊢
      have c3 : (!ByteArray.toList (ByteArray.mk ⟨pz 5 (crcN ⟨⟨l⟩⟩)⟩) == ByteArray.toList (ByteArray.mk ⟨pz 5 (crcN ⟨⟨l⟩⟩)⟩)) = false := by simp
      simp only [c3, Bool.false_eq_true, if_false, block_eq]
      have hs : (ByteArray.mk ⟨l⟩).size = l.length := rfl
      rcases split_at 32 l with hf | ⟨p, q, rfl, hp⟩
      · obtain ⟨k1, k2⟩ := cut_free hf
        obtain ⟨k3, k4⟩ := cut_free (l := []) (by simp)
        have ht : to119 ⟨⟨l⟩⟩ = l.length + 1 := by
          show nx119 l + 1 + nx119 (l.drop (nx119 l + 1)) = _
          rw [nx_free hf, List.drop_of_length_le (by omega)]
          rfl
        have hk : ok119 ⟨⟨l⟩⟩ (at119 ⟨⟨l⟩⟩) (to119 ⟨⟨l⟩⟩) = false := by
          unfold ok119
          rw [ht, decide_eq_false (by omega), Bool.false_and]
        unfold fb119 fc119
        rw [k1, k2, k3, k4, one_none, hk]
        simp
      · obtain ⟨k1, k2⟩ := cut_at q hp
        rw [k1, k2]
        have ha : at119 ⟨⟨p ++ 32 :: q⟩⟩ = p.length := nx_at q hp
        have hd : (p ++ 32 :: q).drop (p.length + 1) = q := by
          rw [show p ++ 32 :: q = (p ++ [32]) ++ q by simp]
          rw [List.drop_left' (by simp)]
        have ht : to119 ⟨⟨p ++ 32 :: q⟩⟩ = p.length + 1 + nx119 q := by
          unfold to119
          rw [ha]
          show p.length + 1 + nx119 ((p ++ 32 :: q).drop (p.length + 1)) = _
          rw [hd]
        rcases split_at 32 q with hf | ⟨r, t, rfl, hr2⟩
        · obtain ⟨k3, k4⟩ := cut_free hf
          rw [nx_free hf] at ht
          have hk : ok119 ⟨⟨p ++ 32 :: q⟩⟩ (at119 ⟨⟨p ++ 32 :: q⟩⟩) (to119 ⟨⟨p ++ 32 :: q⟩⟩) = false := by
            unfold ok119
            rw [ht, decide_eq_false (by rw [hs]; simp; omega), Bool.false_and]
          have hne : (!ByteArray.toList (g96_0 (⟨⟨p⟩⟩, ⟨⟨q⟩⟩, ⟨⟨[]⟩⟩, ())) == ByteArray.toList x) = true := by
            rw [Bool.not_eq_true', Bool.eq_false_iff]
            intro h
            have h := (bytes_eq _ _).1 h
            rw [line_eq, hx] at h
            have := congrArg (fun y : ByteArray => y.data.toList.length) h
            simp [restB, pz_len] at this
          unfold fb119 fc119
          rw [k3, k4, hk, hne]
          simp
        · obtain ⟨k3, k4⟩ := cut_at t hr2
          rw [nx_at t hr2] at ht
          have hblk : blk119 ⟨⟨p ++ 32 :: (r ++ 32 :: t)⟩⟩ p.length (p.length + 1 + r.length) = (⟨⟨p⟩⟩, ⟨⟨r⟩⟩, ⟨⟨t⟩⟩, ()) := by
            unfold blk119
            rw [hs, ext_of, ext_of, ext_of]
            have d1 : (p ++ 32 :: (r ++ 32 :: t)).drop (p.length + 1 + r.length + 1) = t := by
              rw [show p ++ 32 :: (r ++ 32 :: t) = (p ++ [32] ++ r ++ [32]) ++ t by simp]
              rw [List.drop_left' (by simp; omega)]
            rw [hd, d1]
            have e1 : p.length + (r.length + (t.length + 1) + 1) - (p.length + 1 + r.length + 1) = t.length := by omega
            simp [e1]
          have hk : ok119 ⟨⟨p ++ 32 :: (r ++ 32 :: t)⟩⟩ p.length (p.length + 1 + r.length) = g135_0 (⟨⟨p⟩⟩, ⟨⟨r⟩⟩, ⟨⟨t⟩⟩, ()) := by
            unfold ok119
            rw [hblk, decide_eq_true (show p.length + 1 + r.length < (ByteArray.mk ⟨p ++ 32 :: (r ++ 32 :: t)⟩).size by rw [hs]; simp only [List.length_append, List.length_cons]; omega), Bool.true_and]
          have hne : (!ByteArray.toList (g96_0 (⟨⟨p⟩⟩, ⟨⟨r⟩⟩, ⟨⟨t⟩⟩, ())) == ByteArray.toList x) = false := by
            have hrb : restB ((⟨⟨p⟩⟩, ⟨⟨r⟩⟩, ⟨⟨t⟩⟩, ()) : (ByteArray × ByteArray × ByteArray × Unit)) = p ++ 32 :: (r ++ 32 :: t) := by simp [restB]
            rw [line_eq, hrb, ← hx]
            simp
          unfold fb119 fc119
          rw [k3, k4, hne, ha, ht, hk, hblk]
          cases g135_0 (⟨⟨p⟩⟩, ⟨⟨r⟩⟩, ⟨⟨t⟩⟩, ()) <;> simp

end Go.Proofs.YtakodkjcmacofaaDoor

/- A law that says how functions of the program and of the specification hang together. -/
set_option linter.unusedVariables false
set_option linter.unusedSimpArgs false
set_option maxRecDepth 100000
namespace Go.Proofs.YtakodkjcmacofaaDoor
open Go Go.Am Go.Proofs

theorem split_lines (x : ByteArray) (h : x.size ≤ 1048576) : P66 x 10 ∧ P87 x (ByteArray.mk #[10]) ∧ g87_0 x (ByteArray.mk #[10]) = g66_0 x 10 ∧ 1 ≤ (g66_0 x 10).length ∧ (g66_0 x 10).length ≤ 1048577 := by
  have e : g87_0 x (ByteArray.mk #[10]) = g66_0 x 10 := splitB_one 10 x
  have hl : (g66_0 x 10).length = x.data.toList.count 10 + 1 := by
    show (bss (splitC (10 : UInt8) x.data.toList)).length = _
    unfold bss
    rw [List.length_map, splitC_length]
  have hc : x.data.toList.count (10 : UInt8) ≤ x.size := List.count_le_length
  exact ⟨⟨by omega, by omega, by omega⟩, ⟨by omega, Nat.le_refl 1⟩, e, by omega, by omega⟩

end Go.Proofs.YtakodkjcmacofaaDoor

/- A law that says how functions of the program and of the specification hang together. -/
set_option linter.unusedVariables false
set_option linter.unusedSimpArgs false
set_option maxRecDepth 100000
namespace Go.Proofs.YtakodkjcmacofaaDoor
open Go Go.Am Go.Proofs

theorem marked_int (xs : List Int) (h : xs.length ≤ 1048576) : P61 xs 1 ∧ (u61_0 xs 1).length = xs.length ∧ P62 (u61_0 xs 1) 1 ∧
    g62_0 (u61_0 xs 1) 1 = g61_0 xs 1 ∧ ¬ g61_0 xs 1 < 0 := by
  have hl : (u61_0 xs 1).length = xs.length := by rw [u61_0, M61_len]
  refine ⟨⟨by omega, by omega⟩, hl, ⟨⟨by omega, by rw [hl]; omega⟩, fun i hi => ?_⟩, ?_, ?_⟩
  · rw [hl] at hi
    rw [getD_lt _ _ _ (by rw [hl]; exact hi)]
    simp [u61_0, M61]
  · unfold g62_0 g61_0
    rw [hl]
  · unfold g61_0
    omega

end Go.Proofs.YtakodkjcmacofaaDoor

/- A law that says how functions of the program and of the specification hang together. -/
set_option linter.unusedVariables false
set_option linter.unusedSimpArgs false
set_option maxRecDepth 100000
namespace Go.Proofs.YtakodkjcmacofaaDoor
open Go Go.Am Go.Proofs

theorem ifT2 {c : Prop} [Decidable c] {Q : Prop} (h : ¬ c → Q) : if c then True else Q := by
  by_cases hc : c
  · rw [if_pos hc]; trivial
  · rw [if_neg hc]; exact h hc

theorem cut_size (t s : ByteArray) : (g64_0 t s).size ≤ t.size ∧ (g64_1 t s).size ≤ t.size := by
  obtain ⟨l1, l2⟩ := cutLen64 t.data.toList s.data.toList
  have e : t.data.toList.length = t.size := rfl
  have a1 : (g64_0 t s).size = (Lib.cut t.data.toList s.data.toList).1.length := by
    show (List.toArray _).size = _
    rw [List.size_toArray]
  have a2 : (g64_1 t s).size = (Lib.cut t.data.toList s.data.toList).2.1.length := by
    show (List.toArray _).size = _
    rw [List.size_toArray]
  omega

theorem rep_size {n : Nat} (h : n ≤ 65535) : (g143_0 (ByteArray.mk #[48]) (5 - (((g94_0 (n : Int)).size : Nat) : Int))).size + (g94_0 (n : Int)).size = 5 := by
  have := congrArg ByteArray.size (rep_pz h).1
  rw [ByteArray.size_append] at this
  have e : (ByteArray.mk ⟨pz 5 n⟩).size = (pz 5 n).length := rfl
  rw [e, pz_len] at this
  exact this

theorem line_pre (b : (ByteArray × ByteArray × ByteArray × Unit)) (h1 : b.1.size ≤ 1048576) (h2 : b.2.1.size ≤ 1048576) (h3 : b.2.2.1.size ≤ 1048576) : P96 b := by
  unfold P96
  have e : g142_0 (Prod.fst b ++ ByteArray.mk #[32] ++ Prod.fst (Prod.snd b) ++ ByteArray.mk #[32] ++ Prod.fst (Prod.snd (Prod.snd b))) 65535 = (crcN ⟨⟨restB b⟩⟩ : Int) := by rw [rest_eq, crc_i]
  rw [e]
  have hn := crcN_le ⟨⟨restB b⟩⟩
  generalize crcN ⟨⟨restB b⟩⟩ = n at *
  have r := rep_size hn
  obtain ⟨_, r2, r3⟩ := rep_pz hn
  have i32 : (ByteArray.mk #[32]).size = 1 := rfl
  have i48 : (((ByteArray.mk #[48]).size : Nat) : Int) = 1 := rfl
  simp only [ByteArray.size_append, i32]
  refine ⟨by omega, by omega, by omega, by omega, ⟨rfl, trivial⟩, by rw [i64_iff]; omega, ⟨by omega, by rw [i48]; omega⟩, by omega, by omega, by omega, trivial⟩

theorem parse_pre (x : ByteArray) (h : x.size ≤ 1048576) : P121 x := by
  unfold P121
  refine ifT2 fun h1 => ?_
  have h1' : ¬ (x.size : Int) < 6 := fun hh => h1 (decide_eq_true hh)
  have hr : (ByteArray.extract x 6 (Int.toNat ((x.size : Nat) : Int))).size ≤ 1048576 := by rw [ByteArray.size_extract]; omega
  generalize ByteArray.extract x 6 (Int.toNat ((x.size : Nat) : Int)) = rs at *
  obtain ⟨k1, k2⟩ := cut_size rs (ByteArray.mk #[32])
  obtain ⟨k3, k4⟩ := cut_size (g64_1 rs (ByteArray.mk #[32])) (ByteArray.mk #[32])
  rw [crc_i]
  have hn := crcN_le rs
  generalize crcN rs = n at *
  have r := rep_size hn
  obtain ⟨_, r2, r3⟩ := rep_pz hn
  have i48 : (((ByteArray.mk #[48]).size : Nat) : Int) = 1 := rfl
  refine ⟨by omega, ifT2 fun _ => ⟨by omega, (show rs.size < 4294967281 by omega), (show (g64_1 rs (ByteArray.mk #[32])).size < 4294967281 by omega), by omega, ⟨rfl, trivial⟩, by omega, by rw [i64_iff]; omega, ⟨by omega, by rw [i48]; omega⟩, by omega, ifT2 fun _ => ⟨pre138 _, ifT2 fun _ => ⟨line_pre _ (by show (g64_0 rs (ByteArray.mk #[32])).size ≤ _; omega) (by show (g64_0 (g64_1 rs (ByteArray.mk #[32])) (ByteArray.mk #[32])).size ≤ _; omega) (by show (g64_1 (g64_1 rs (ByteArray.mk #[32])) (ByteArray.mk #[32])).size ≤ _; omega), trivial⟩⟩⟩⟩

theorem damaged_eq (x : ByteArray) (h : x.size ≤ 1048576) : P58 x ∧ P59 x ∧ g59_0 x = g58_0 x ∧ (g58_0 x).length ≤ 1048576 := by
  obtain ⟨p1, p2, e, l1, l2⟩ := split_lines x h
  have hsz : ∀ y ∈ g66_0 x 10, y.size ≤ 1048576 := fun y hy => by
    rw [← e] at hy
    exact Nat.le_trans (splitB_part _ _ _ _ y hy) h
  have hL : g120_0 x = g118_0 x := by
    unfold g120_0 g118_0; rw [e]
  have hR : (!ByteArray.toList (g120_1 x) == ByteArray.toList (ByteArray.mk #[])) = (!g118_1 x) := by
    unfold g120_1 g118_1; rw [e]
  have hlen : (g118_0 x).length ≤ 1048576 := by
    unfold g118_0
    rw [List.length_drop, List.length_take]; omega
  have hP1 : P118 x := by
    unfold P118
    generalize g66_0 x 10 = L at *
    exact ⟨p1, by rw [i64_iff]; omega, by omega, by omega, by omega, by omega, trivial⟩
  have hP2 : P120 x := by
    unfold P120
    rw [e]
    generalize g66_0 x 10 = L at *
    exact ⟨p2, by rw [i64_iff]; omega, by omega, by omega, by omega, by omega, trivial⟩
  have hmem : ∀ y ∈ g118_0 x, y.size ≤ 1048576 := fun y hy => by
    unfold g118_0 at hy
    exact hsz y (List.mem_of_mem_take (List.mem_of_mem_drop hy))
  have dm : ∀ (l : List ByteArray) (i : Nat), 0 < i → dm59 i l = dm58 i l := by
    intro l
    induction l with
    | nil => intro i _; rfl
    | cons a r ih =>
      intro i hi
      unfold dm59 dm58
      rw [if_pos (decide_eq_true (by omega)), (parse_eq a).2, ih (i + 1) (by omega)]
  have dlen : ∀ (l : List ByteArray) (i : Nat), (dm58 i l).length ≤ l.length := by
    intro l
    induction l with
    | nil => intro i; exact Nat.le_refl _
    | cons a r ih =>
      intro i
      have := ih (i + 1)
      unfold dm58
      rw [List.length_append, List.length_cons]
      split
      · rw [List.length_singleton]; omega
      · rw [List.length_nil]; omega
  refine ⟨⟨hP1, by omega⟩, ⟨hP2, by rw [hL]; omega, fun y hy => parse_pre y (hmem y (by rw [← hL]; exact hy))⟩, ?_, ?_⟩
  · unfold g59_0 g58_0 tl59 tl58
    rw [hL, hR]
    congr 1
    cases g118_0 x with
    | nil => rfl
    | cons a r =>
      have e1 : dm59 0 (a :: r) = dm59 1 r := by
        unfold dm59
        rw [if_neg (by decide)]
        cases r <;> rfl
      rw [e1, dm r 1 (by decide)]
      rfl
  · unfold g58_0
    have a1 := dlen ((g118_0 x).drop 1) 1
    rw [List.length_drop] at a1
    rw [List.length_append]
    unfold tl58
    split
    · rw [List.length_singleton]; omega
    · rw [List.length_nil]; omega

end Go.Proofs.YtakodkjcmacofaaDoor

/- The plain law of FnExactDamagedLines. -/
set_option linter.unusedVariables false
set_option linter.unusedSimpArgs false
set_option maxRecDepth 100000
namespace Go.Proofs.YtakodkjcmacofaaDoor
open Go Go.Am Go.Proofs

theorem law12 (x : ByteArray) (hw : Wf .str x) : P12 x ∧ g12_0 x = true := by
  unfold P12 g12_0
  by_cases h : (x.size : Int) > 1048576
  · simp only [h, decide_true, if_true, and_self]
  · obtain ⟨p1, p2, e0, hl⟩ := damaged_eq x (by omega)
    obtain ⟨m1, m2, m3, m4, m5⟩ := marked_int (g58_0 x) hl
    have hm : decide (g61_0 (g58_0 x) 1 < 0) = false := decide_eq_false m5
    simp only [h, decide_false, Bool.false_eq_true, if_false, e0, p1, p2, g60_0, decide_true, Bool.not_true, m1, m2, m3, m4, m5, hm, bne_self_eq_false, beq_self_eq_true, true_and, and_self]

end Go.Proofs.YtakodkjcmacofaaDoor
