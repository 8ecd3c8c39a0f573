/- Several texts in one: the functions that this law reaches, and their laws. -/
import Derived.Test.YtjkeinpcphkfbaaZ6A
import Derived.Test.YtjkeinpcphkfbaaZ6B

/- Function 118 (cmp.Compare[string]): its runs between cut points. Written by a program of this repo (gen). -/
set_option linter.unusedVariables false
set_option linter.unusedSimpArgs false
set_option maxRecDepth 100000
namespace Go.Proofs.Ytjkeinpcphkfbaa
open Go Go.Am Go.Proofs
def ext118 : Ext := [(136, S136)]
theorem call118_136 : Callable Try.prog 136 := ⟨Try.f136, Try.func136, by kernel_rfl, by kernel_rfl⟩
theorem ext118Ok : ExtOk Try.prog ext118 := ⟨⟨call118_136, con136⟩, trivial⟩
/-! Function 118. -/
noncomputable def b118 : Code := bodyOf Try.f118
theorem hb118 : Try.f118.body = some b118 := by kernel_rfl
def sig118 : List AT := [AT.v (Ty.str), AT.v (Ty.str)]
def tys118 : List Ty := [Ty.int IntKind.i64]
def P118 (x0 : ByteArray) (x1 : ByteArray) : Prop := True
def g118_0 (x0 : ByteArray) (x1 : ByteArray) : Int := (if (g136_0 x0) = true then (if (g136_0 x1) = true then 0 else -1) else (if (g136_0 x1) = true then 1 else (if (Op.bytesLess (ByteArray.toList x0) (ByteArray.toList x1)) = true then -1 else (if (!(Op.bytesLess (ByteArray.toList x0) (ByteArray.toList x1) || ByteArray.toList x0 == ByteArray.toList x1)) = true then 1 else 0))))
theorem p118_0 (x0 : ByteArray) (x1 : ByteArray) : runF tab ext118 false 20 [] 2000 [] tys118 Try.f118.results [true, true] [.code b118] (entE 0 0 sig118 (x0, x1, ())) (entL sig118 (x0, x1, ())) = some ([Dyn.mk (Ty.int IntKind.i64) 0], [], [True, True, g136_0 x0 = Bool.true, g136_0 x1 = Bool.true]) := by kernel_rfl
theorem p118_1 (x0 : ByteArray) (x1 : ByteArray) : runF tab ext118 false 20 [] 2000 [] tys118 Try.f118.results [true, false] [.code b118] (entE 0 0 sig118 (x0, x1, ())) (entL sig118 (x0, x1, ())) = some ([Dyn.mk (Ty.int IntKind.i64) (-1)], [], [True, True, g136_0 x0 = Bool.true, g136_0 x1 = Bool.false]) := by kernel_rfl
theorem p118_2 (x0 : ByteArray) (x1 : ByteArray) : runF tab ext118 false 20 [] 2000 [] tys118 Try.f118.results [false, true] [.code b118] (entE 0 0 sig118 (x0, x1, ())) (entL sig118 (x0, x1, ())) = some ([Dyn.mk (Ty.int IntKind.i64) 1], [], [True, True, g136_0 x0 = Bool.false, g136_0 x1 = Bool.true]) := by kernel_rfl
theorem p118_3 (x0 : ByteArray) (x1 : ByteArray) : runF tab ext118 false 20 [] 2000 [] tys118 Try.f118.results [false, false, true] [.code b118] (entE 0 0 sig118 (x0, x1, ())) (entL sig118 (x0, x1, ())) = some ([Dyn.mk (Ty.int IntKind.i64) (-1)], [], [True, True, g136_0 x0 = Bool.false, g136_0 x1 = Bool.false, Op.bytesLess (ByteArray.toList x0) (ByteArray.toList x1) = Bool.true]) := by kernel_rfl
theorem p118_4 (x0 : ByteArray) (x1 : ByteArray) : runF tab ext118 false 20 [] 2000 [] tys118 Try.f118.results [false, false, false, true] [.code b118] (entE 0 0 sig118 (x0, x1, ())) (entL sig118 (x0, x1, ())) = some ([Dyn.mk (Ty.int IntKind.i64) 1], [], [True, True, g136_0 x0 = Bool.false, g136_0 x1 = Bool.false, Op.bytesLess (ByteArray.toList x0) (ByteArray.toList x1) = Bool.false, (!(Op.bytesLess (ByteArray.toList x0) (ByteArray.toList x1) || ByteArray.toList x0 == ByteArray.toList x1)) = Bool.true]) := by kernel_rfl
theorem p118_5 (x0 : ByteArray) (x1 : ByteArray) : runF tab ext118 false 20 [] 2000 [] tys118 Try.f118.results [false, false, false, false] [.code b118] (entE 0 0 sig118 (x0, x1, ())) (entL sig118 (x0, x1, ())) = some ([Dyn.mk (Ty.int IntKind.i64) 0], [], [True, True, g136_0 x0 = Bool.false, g136_0 x1 = Bool.false, Op.bytesLess (ByteArray.toList x0) (ByteArray.toList x1) = Bool.false, (!(Op.bytesLess (ByteArray.toList x0) (ByteArray.toList x1) || ByteArray.toList x0 == ByteArray.toList x1)) = Bool.false]) := by kernel_rfl
theorem at118 (x0 : ByteArray) (x1 : ByteArray) (h : P118 x0 x1) (w0 : World) (O : List Nat) (q : Nat → Value) : AtV Try.prog 118 (PostR [⟨Ty.int IntKind.i64, g118_0 x0 x1⟩] [] [] q w0 O) 20 w0 O q [] [.code b118] (entE 0 0 sig118 (x0, x1, ())) (entL sig118 (x0, x1, ())) := by
  unfold P118 at h
  unfold g118_0
  by_cases b0 : (g136_0 x0) = true
  · try simp only [if_pos b0] at h ⊢
    by_cases b1 : (g136_0 x1) = true
    · try simp only [if_pos b1] at h ⊢
      exact AtV.fin Try.func118 tabOk ext118Ok mixed (p118_0 x0 x1) ⟨trivial, trivial, b0, b1, trivial⟩
    · try simp only [if_neg b1] at h ⊢
      replace b1 := Bool.eq_false_iff.2 b1
      exact AtV.fin Try.func118 tabOk ext118Ok mixed (p118_1 x0 x1) ⟨trivial, trivial, b0, b1, trivial⟩
  · try simp only [if_neg b0] at h ⊢
    replace b0 := Bool.eq_false_iff.2 b0
    by_cases b1 : (g136_0 x1) = true
    · try simp only [if_pos b1] at h ⊢
      exact AtV.fin Try.func118 tabOk ext118Ok mixed (p118_2 x0 x1) ⟨trivial, trivial, b0, b1, trivial⟩
    · try simp only [if_neg b1] at h ⊢
      replace b1 := Bool.eq_false_iff.2 b1
      by_cases b2 : (Op.bytesLess (ByteArray.toList x0) (ByteArray.toList x1)) = true
      · try simp only [if_pos b2] at h ⊢
        exact AtV.fin Try.func118 tabOk ext118Ok mixed (p118_3 x0 x1) ⟨trivial, trivial, b0, b1, b2, trivial⟩
      · try simp only [if_neg b2] at h ⊢
        replace b2 := Bool.eq_false_iff.2 b2
        by_cases b3 : (!(Op.bytesLess (ByteArray.toList x0) (ByteArray.toList x1) || ByteArray.toList x0 == ByteArray.toList x1)) = true
        · try simp only [if_pos b3] at h ⊢
          exact AtV.fin Try.func118 tabOk ext118Ok mixed (p118_4 x0 x1) ⟨trivial, trivial, b0, b1, b2, b3, trivial⟩
        · try simp only [if_neg b3] at h ⊢
          replace b3 := Bool.eq_false_iff.2 b3
          exact AtV.fin Try.func118 tabOk ext118Ok mixed (p118_5 x0 x1) ⟨trivial, trivial, b0, b1, b2, b3, trivial⟩

def S118 : Am.Spec := { sig := sig118, pre := fun ⟨x0, x1, _⟩ => P118 x0 x1, res := fun ⟨x0, x1, _⟩ => [⟨Ty.int IntKind.i64, g118_0 x0 x1⟩] }
theorem con118 : Contract Try.prog 118 S118 := contract_of Try.func118 hb118 (Nat.le_of_ble_eq_true (by kernel_rfl)) (fun ⟨x0, x1, _⟩ h _ w0 O q => at118 x0 x1 h w0 O q)


end Go.Proofs.Ytjkeinpcphkfbaa

/- Function 117 (cmp.Or[int]): its runs between cut points. Written by a program of this repo (gen). -/
set_option linter.unusedVariables false
set_option linter.unusedSimpArgs false
set_option maxRecDepth 100000
namespace Go.Proofs.Ytjkeinpcphkfbaa
open Go Go.Am Go.Proofs
def ext117 : Ext := []
theorem ext117Ok : ExtOk Try.prog ext117 := trivial
/-! Function 117. -/
noncomputable def b117 : Code := bodyOf Try.f117
theorem hb117 : Try.f117.body = some b117 := by kernel_rfl
def sig117 : List AT := [AT.v (Ty.sl (Ty.int IntKind.i64))]
def tys117 : List Ty := [Ty.int IntKind.i64]
def E117_3 (v8 : Int) (x0 : List Int) : Env := [(3, PV.a (Atom.val (Value.int IntKind.i64 0))), (6, PV.a (Atom.sl (Ty.int IntKind.i64) x0)), (7, PV.a (Atom.val (Value.int IntKind.i64 (↑(List.length x0) : Int)))), (8, PV.a (Atom.val (Value.int IntKind.i64 v8)))]
def L117_3 (v8 : Int) (x0 : List Int) : Heap := []
mutual
def R117 : Nat → List Int → List Dyn → Prop
  | 0, _, _ => False
  | n + 1, x0, ds => (R117_3 n (0) (x0) ds)
def R117_3 : Nat → Int → List Int → List Dyn → Prop
  | 0, _, _, _ => False
  | n + 1, v8, x0, ds => (if (Decidable.decide (v8 < (↑(List.length x0) : Int))) = true then ((0 ≤ v8) ∧ (v8 < (↑(List.length x0) : Int)) ∧ (if (List.getD x0 (Int.toNat v8) 0 != 0) = true then (ds = [Dyn.mk (Ty.int IntKind.i64) (List.getD x0 (Int.toNat v8) 0)]) else ((InR IntKind.i64 (v8 + 1)) ∧ (R117_3 n (v8 + 1) (x0) ds)))) else (ds = [Dyn.mk (Ty.int IntKind.i64) 0]))
end
theorem p117_0 (x0 : List Int) : Am.runN tab ext117 false 18 [] 2000 [] [] [3, 6, 7, 8] [] [] [.code b117] (entE 0 0 sig117 (x0, ())) (entL sig117 (x0, ())) = some (cutAt b117 3, E117_3 (0) (x0), L117_3 (0) (x0), []) := by kernel_rfl
theorem p117_1 (v8 : Int) (x0 : List Int) : runF tab ext117 false 18 [] 2000 [] tys117 Try.f117.results [true, true] (cutAt b117 3) (E117_3 v8 x0) (L117_3 v8 x0) = some ([Dyn.mk (Ty.int IntKind.i64) (List.getD x0 (Int.toNat v8) 0)], [], [Decidable.decide (v8 < (↑(List.length x0) : Int)) = Bool.true, 0 ≤ v8, v8 < (↑(List.length x0) : Int), (List.getD x0 (Int.toNat v8) 0 != 0) = Bool.true]) := by kernel_rfl
theorem p117_2 (v8 : Int) (x0 : List Int) : Am.runN tab ext117 false 18 [] 2000 [] [] [3, 6, 7, 8] [] [true, false] (cutAt b117 3) (E117_3 v8 x0) (L117_3 v8 x0) = some (cutAt b117 3, E117_3 (v8 + 1) (x0), L117_3 (v8 + 1) (x0), [Decidable.decide (v8 < (↑(List.length x0) : Int)) = Bool.true, 0 ≤ v8, v8 < (↑(List.length x0) : Int), (List.getD x0 (Int.toNat v8) 0 != 0) = Bool.false, InR IntKind.i64 (v8 + 1)]) := by kernel_rfl
theorem p117_3 (v8 : Int) (x0 : List Int) : runF tab ext117 false 18 [] 2000 [] tys117 Try.f117.results [false] (cutAt b117 3) (E117_3 v8 x0) (L117_3 v8 x0) = some ([Dyn.mk (Ty.int IntKind.i64) 0], [], [Decidable.decide (v8 < (↑(List.length x0) : Int)) = Bool.false]) := by kernel_rfl
theorem snd117 : ∀ n, (∀ (x0 : List Int) ds, R117 n x0 ds → ∀ w0 O q, AtV Try.prog 117 (PostR ds [] [] q w0 O) 18 w0 O q [] [.code b117] (entE 0 0 sig117 (x0, ())) (entL sig117 (x0, ()))) ∧ (∀ (v8 : Int) (x0 : List Int) ds, R117_3 n v8 x0 ds → ∀ w0 O q, AtV Try.prog 117 (PostR ds [] [] q w0 O) 18 w0 O q [] (cutAt b117 3) (E117_3 v8 x0) (L117_3 v8 x0)) := by
  intro n
  induction n with
  | zero => exact ⟨fun _ _ h => by simp only [R117] at h, fun _ _ _ h => by simp only [R117_3] at h⟩
  | succ n ih =>
  obtain ⟨ih, ih3⟩ := ih
  refine ⟨?_, ?_⟩
  · intro x0 ds h w0 O q
    rw [R117] at h
    exact AtV.runN tabOk ext117Ok mixed (p117_0 x0) trivial (ih3 _ _ _ h w0 O q)

  · intro v8 x0 ds h w0 O q
    rw [R117_3] at h
    by_cases b0 : (Decidable.decide (v8 < (↑(List.length x0) : Int))) = true
    · rw [if_pos b0] at h
      obtain ⟨s0, s1, h⟩ := h
      by_cases b1 : (List.getD x0 (Int.toNat v8) 0 != 0) = true
      · rw [if_pos b1] at h
        subst h
        exact AtV.fin Try.func117 tabOk ext117Ok mixed (p117_1 v8 x0) ⟨b0, s0, s1, b1, trivial⟩
      · rw [if_neg b1] at h
        replace b1 := Bool.eq_false_iff.2 b1
        obtain ⟨s2, h⟩ := h
        exact AtV.runN tabOk ext117Ok mixed (p117_2 v8 x0) ⟨b0, s0, s1, b1, s2, trivial⟩ (ih3 _ _ _ h w0 O q)
    · rw [if_neg b0] at h
      replace b0 := Bool.eq_false_iff.2 b0
      subst h
      exact AtV.fin Try.func117 tabOk ext117Ok mixed (p117_3 v8 x0) ⟨b0, trivial⟩



def g117_0 : List Int → Int
  | [] => 0
  | x :: r => if x != 0 then x else g117_0 r
def P117 (x0 : List Int) : Prop := True

theorem goL117 : ∀ (xs : List Int), goL (fun (_ : Unit) (x : Int) => if (x != 0) = true then Except.error [(⟨.int .i64, x⟩ : Dyn)] else .ok ()) (fun _ => [⟨.int .i64, (0 : Int)⟩]) () xs = [⟨.int .i64, g117_0 xs⟩]
  | [] => rfl
  | x :: r => by
    simp only [goL, g117_0]
    cases h : x != 0 with
    | true => simp
    | false => simpa using goL117 r

theorem top117 (x0 : List Int) (hm : x0.length ≤ maxLen) : R117 (x0.length + 1 + 1) x0 [⟨.int .i64, g117_0 x0⟩] := by
  rw [R117, ← goL117]
  refine loop_all x0 0 _ _ (fun _ _ => True) (fun n i _ ds => R117_3 n i x0 ds) trivial ?_ ?_
  · intro n b _
    show R117_3 (n + 1) x0.length x0 _
    rw [R117_3, if_neg (by simp)]
  · intro n i b hi _
    cases h : (x0.getD i 0 != 0) with
    | true =>
      show R117_3 (n + 1) (i : Int) x0 _
      rw [R117_3, if_pos (by simp; omega)]
      refine ⟨by omega, by omega, ?_⟩
      simp only [Int.toNat_natCast]
      rw [if_pos h] <;> trivial
    | false =>
      refine ⟨trivial, fun ds hr => ?_⟩
      rw [R117_3, if_pos (by simp; omega)]
      refine ⟨by omega, by omega, ?_⟩
      simp only [Int.toNat_natCast]
      rw [if_neg (by rw [h]; simp)]
      exact ⟨inR_up hm hi, hr⟩

def S117 : Am.Spec := { sig := sig117, pre := fun ⟨x0, _⟩ => P117 x0, res := fun ⟨x0, _⟩ => [⟨Ty.int .i64, g117_0 x0⟩] }
theorem con117 : Contract Try.prog 117 S117 := contract_of Try.func117 hb117 (Nat.le_of_ble_eq_true (by kernel_rfl)) (fun ⟨x0, _⟩ h hwf w0 O q =>
  (snd117 _).1 x0 _ (top117 x0 hwf.1.1) w0 O q)

end Go.Proofs.Ytjkeinpcphkfbaa

/- Function 85 (impl.compareBlocks): its runs between cut points. Written by a program of this repo (gen). -/
set_option linter.unusedVariables false
set_option linter.unusedSimpArgs false
set_option maxRecDepth 100000
namespace Go.Proofs.Ytjkeinpcphkfbaa
open Go Go.Am Go.Proofs
def ext85 : Ext := [(118, S118), (117, S117)]
theorem call85_118 : Callable Try.prog 118 := ⟨Try.f118, Try.func118, by kernel_rfl, by kernel_rfl⟩
theorem call85_117 : Callable Try.prog 117 := ⟨Try.f117, Try.func117, by kernel_rfl, by kernel_rfl⟩
theorem ext85Ok : ExtOk Try.prog ext85 := ⟨⟨call85_118, con118⟩, ⟨call85_117, con117⟩, trivial⟩
/-! Function 85. -/
noncomputable def b85 : Code := bodyOf Try.f85
theorem hb85 : Try.f85.body = some b85 := by kernel_rfl
def sig85 : List AT := [AT.v (Ty.cons Ty.str (Ty.cons Ty.str (Ty.cons Ty.str Ty.unit))), AT.v (Ty.cons Ty.str (Ty.cons Ty.str (Ty.cons Ty.str Ty.unit)))]
def tys85 : List Ty := [Ty.int IntKind.i64]
def P85 (x0 : ByteArray × ByteArray × ByteArray × Unit) (x1 : ByteArray × ByteArray × ByteArray × Unit) : Prop := True
def g85_0 (x0 : ByteArray × ByteArray × ByteArray × Unit) (x1 : ByteArray × ByteArray × ByteArray × Unit) : Int := g117_0 [g118_0 (Prod.fst x0) (Prod.fst x1), g118_0 (Prod.fst (Prod.snd x0)) (Prod.fst (Prod.snd x1))]
theorem p85_0 (x0 : ByteArray × ByteArray × ByteArray × Unit) (x1 : ByteArray × ByteArray × ByteArray × Unit) : runF tab ext85 false 17 [] 2000 [] tys85 Try.f85.results [] [.code b85] (entE 0 0 sig85 (x0, x1, ())) (entL sig85 (x0, x1, ())) = some ([Dyn.mk (Ty.int IntKind.i64) (g117_0 [g118_0 (Prod.fst x0) (Prod.fst x1), g118_0 (Prod.fst (Prod.snd x0)) (Prod.fst (Prod.snd x1))])], [], [True, True, True]) := by kernel_rfl
theorem at85 (x0 : ByteArray × ByteArray × ByteArray × Unit) (x1 : ByteArray × ByteArray × ByteArray × Unit) (h : P85 x0 x1) (w0 : World) (O : List Nat) (q : Nat → Value) : AtV Try.prog 85 (PostR [⟨Ty.int IntKind.i64, g85_0 x0 x1⟩] [] [] q w0 O) 17 w0 O q [] [.code b85] (entE 0 0 sig85 (x0, x1, ())) (entL sig85 (x0, x1, ())) := by
  unfold P85 at h
  unfold g85_0
  exact AtV.fin Try.func85 tabOk ext85Ok mixed (p85_0 x0 x1) ⟨trivial, trivial, trivial, trivial⟩

def S85 : Am.Spec := { sig := sig85, pre := fun ⟨x0, x1, _⟩ => P85 x0 x1, res := fun ⟨x0, x1, _⟩ => [⟨Ty.int IntKind.i64, g85_0 x0 x1⟩] }
theorem con85 : Contract Try.prog 85 S85 := contract_of Try.func85 hb85 (Nat.le_of_ble_eq_true (by kernel_rfl)) (fun ⟨x0, x1, _⟩ h _ w0 O q => at85 x0 x1 h w0 O q)


end Go.Proofs.Ytjkeinpcphkfbaa

/- Function 37 (impl.ValidBlocks): its runs between cut points. Written by a program of this repo (gen). -/
set_option linter.unusedVariables false
set_option linter.unusedSimpArgs false
set_option maxRecDepth 100000
namespace Go.Proofs.Ytjkeinpcphkfbaa
open Go Go.Am Go.Proofs
def ext37 : Ext := [(84, S84), (85, S85)]
theorem call37_84 : Callable Try.prog 84 := ⟨Try.f84, Try.func84, by kernel_rfl, by kernel_rfl⟩
theorem call37_85 : Callable Try.prog 85 := ⟨Try.f85, Try.func85, by kernel_rfl, by kernel_rfl⟩
theorem ext37Ok : ExtOk Try.prog ext37 := ⟨⟨call37_84, con84⟩, ⟨call37_85, con85⟩, trivial⟩
/-! Function 37. -/
noncomputable def b37 : Code := bodyOf Try.f37
theorem hb37 : Try.f37.body = some b37 := by kernel_rfl
def sig37 : List AT := [AT.v (Ty.sl (Ty.cons Ty.str (Ty.cons Ty.str (Ty.cons Ty.str Ty.unit))))]
def tys37 : List Ty := [Ty.bool]
def E37_2 (v7 : Int) (x0 : List (ByteArray × ByteArray × ByteArray × Unit)) : Env := [(0, PV.a (Atom.sl (Ty.cons Ty.str (Ty.cons Ty.str (Ty.cons Ty.str Ty.unit))) x0)), (5, PV.a (Atom.sl (Ty.cons Ty.str (Ty.cons Ty.str (Ty.cons Ty.str Ty.unit))) x0)), (6, PV.a (Atom.val (Value.int IntKind.i64 (↑(List.length x0) : Int)))), (7, PV.a (Atom.val (Value.int IntKind.i64 v7)))]
def L37_2 (v7 : Int) (x0 : List (ByteArray × ByteArray × ByteArray × Unit)) : Heap := []
mutual
def R37 : Nat → List (ByteArray × ByteArray × ByteArray × Unit) → List Dyn → Prop
  | 0, _, _ => False
  | n + 1, x0, ds => (R37_2 n (0) (x0) ds)
def R37_2 : Nat → Int → List (ByteArray × ByteArray × ByteArray × Unit) → List Dyn → Prop
  | 0, _, _, _ => False
  | n + 1, v7, x0, ds => (if (Decidable.decide (v7 < (↑(List.length x0) : Int))) = true then ((0 ≤ v7) ∧ (v7 < (↑(List.length x0) : Int)) ∧ ((P84 (List.getD x0 (Int.toNat v7) (ByteArray.empty, ByteArray.empty, ByteArray.empty, ()))) ∧ (if (!g84_0 (List.getD x0 (Int.toNat v7) (ByteArray.empty, ByteArray.empty, ByteArray.empty, ()))) = true then (ds = [Dyn.mk Ty.bool Bool.false]) else (if (Decidable.decide (v7 > 0)) = true then ((InR IntKind.i64 (v7 - 1)) ∧ ((0 ≤ v7 - 1) ∧ (v7 - 1 < (↑(List.length x0) : Int)) ∧ (if (Decidable.decide (g85_0 (List.getD x0 (Int.toNat (v7 - 1)) (ByteArray.empty, ByteArray.empty, ByteArray.empty, ())) (List.getD x0 (Int.toNat v7) (ByteArray.empty, ByteArray.empty, ByteArray.empty, ())) ≥ 0)) = true then (ds = [Dyn.mk Ty.bool Bool.false]) else ((InR IntKind.i64 (v7 + 1)) ∧ (R37_2 n (v7 + 1) (x0) ds))))) else ((InR IntKind.i64 (v7 + 1)) ∧ (R37_2 n (v7 + 1) (x0) ds)))))) else (ds = [Dyn.mk Ty.bool (Decidable.decide ((↑(List.length x0) : Int) ≤ 32))]))
end
theorem p37_0 (x0 : List (ByteArray × ByteArray × ByteArray × Unit)) : Am.runN tab ext37 false 33 [] 2000 [] [] [0, 5, 6, 7] [] [] [.code b37] (entE 0 0 sig37 (x0, ())) (entL sig37 (x0, ())) = some (cutAt b37 2, E37_2 (0) (x0), L37_2 (0) (x0), []) := by kernel_rfl
theorem p37_1 (v7 : Int) (x0 : List (ByteArray × ByteArray × ByteArray × Unit)) : runF tab ext37 false 33 [] 2000 [] tys37 Try.f37.results [true, true, true] (cutAt b37 2) (E37_2 v7 x0) (L37_2 v7 x0) = some ([Dyn.mk Ty.bool Bool.false], [], [Decidable.decide (v7 < (↑(List.length x0) : Int)) = Bool.true, 0 ≤ v7, v7 < (↑(List.length x0) : Int), P84 (List.getD x0 (Int.toNat v7) (ByteArray.empty, ByteArray.empty, ByteArray.empty, ())), (!g84_0 (List.getD x0 (Int.toNat v7) (ByteArray.empty, ByteArray.empty, ByteArray.empty, ()))) = Bool.true, Bool.true = Bool.true]) := by kernel_rfl
theorem p37_2 (v7 : Int) (x0 : List (ByteArray × ByteArray × ByteArray × Unit)) : runF tab ext37 false 33 [] 2000 [] tys37 Try.f37.results [true, false, true, true] (cutAt b37 2) (E37_2 v7 x0) (L37_2 v7 x0) = some ([Dyn.mk Ty.bool Bool.false], [], [Decidable.decide (v7 < (↑(List.length x0) : Int)) = Bool.true, 0 ≤ v7, v7 < (↑(List.length x0) : Int), P84 (List.getD x0 (Int.toNat v7) (ByteArray.empty, ByteArray.empty, ByteArray.empty, ())), (!g84_0 (List.getD x0 (Int.toNat v7) (ByteArray.empty, ByteArray.empty, ByteArray.empty, ()))) = Bool.false, Decidable.decide (v7 > 0) = Bool.true, InR IntKind.i64 (v7 - 1), 0 ≤ v7 - 1, v7 - 1 < (↑(List.length x0) : Int), True, Decidable.decide (g85_0 (List.getD x0 (Int.toNat (v7 - 1)) (ByteArray.empty, ByteArray.empty, ByteArray.empty, ())) (List.getD x0 (Int.toNat v7) (ByteArray.empty, ByteArray.empty, ByteArray.empty, ())) ≥ 0) = Bool.true]) := by kernel_rfl
theorem p37_3 (v7 : Int) (x0 : List (ByteArray × ByteArray × ByteArray × Unit)) : Am.runN tab ext37 false 33 [] 2000 [] [] [0, 5, 6, 7] [] [true, false, true, false] (cutAt b37 2) (E37_2 v7 x0) (L37_2 v7 x0) = some (cutAt b37 2, E37_2 (v7 + 1) (x0), L37_2 (v7 + 1) (x0), [Decidable.decide (v7 < (↑(List.length x0) : Int)) = Bool.true, 0 ≤ v7, v7 < (↑(List.length x0) : Int), P84 (List.getD x0 (Int.toNat v7) (ByteArray.empty, ByteArray.empty, ByteArray.empty, ())), (!g84_0 (List.getD x0 (Int.toNat v7) (ByteArray.empty, ByteArray.empty, ByteArray.empty, ()))) = Bool.false, Decidable.decide (v7 > 0) = Bool.true, InR IntKind.i64 (v7 - 1), 0 ≤ v7 - 1, v7 - 1 < (↑(List.length x0) : Int), True, Decidable.decide (g85_0 (List.getD x0 (Int.toNat (v7 - 1)) (ByteArray.empty, ByteArray.empty, ByteArray.empty, ())) (List.getD x0 (Int.toNat v7) (ByteArray.empty, ByteArray.empty, ByteArray.empty, ())) ≥ 0) = Bool.false, InR IntKind.i64 (v7 + 1)]) := by kernel_rfl
theorem p37_4 (v7 : Int) (x0 : List (ByteArray × ByteArray × ByteArray × Unit)) : Am.runN tab ext37 false 33 [] 2000 [] [] [0, 5, 6, 7] [] [true, false, false, false] (cutAt b37 2) (E37_2 v7 x0) (L37_2 v7 x0) = some (cutAt b37 2, E37_2 (v7 + 1) (x0), L37_2 (v7 + 1) (x0), [Decidable.decide (v7 < (↑(List.length x0) : Int)) = Bool.true, 0 ≤ v7, v7 < (↑(List.length x0) : Int), P84 (List.getD x0 (Int.toNat v7) (ByteArray.empty, ByteArray.empty, ByteArray.empty, ())), (!g84_0 (List.getD x0 (Int.toNat v7) (ByteArray.empty, ByteArray.empty, ByteArray.empty, ()))) = Bool.false, Decidable.decide (v7 > 0) = Bool.false, Bool.false = Bool.false, InR IntKind.i64 (v7 + 1)]) := by kernel_rfl
theorem p37_5 (v7 : Int) (x0 : List (ByteArray × ByteArray × ByteArray × Unit)) : runF tab ext37 false 33 [] 2000 [] tys37 Try.f37.results [false] (cutAt b37 2) (E37_2 v7 x0) (L37_2 v7 x0) = some ([Dyn.mk Ty.bool (Decidable.decide ((↑(List.length x0) : Int) ≤ 32))], [], [Decidable.decide (v7 < (↑(List.length x0) : Int)) = Bool.false]) := by kernel_rfl
theorem snd37 : ∀ n, (∀ (x0 : List (ByteArray × ByteArray × ByteArray × Unit)) ds, R37 n x0 ds → ∀ w0 O q, AtV Try.prog 37 (PostR ds [] [] q w0 O) 33 w0 O q [] [.code b37] (entE 0 0 sig37 (x0, ())) (entL sig37 (x0, ()))) ∧ (∀ (v7 : Int) (x0 : List (ByteArray × ByteArray × ByteArray × Unit)) ds, R37_2 n v7 x0 ds → ∀ w0 O q, AtV Try.prog 37 (PostR ds [] [] q w0 O) 33 w0 O q [] (cutAt b37 2) (E37_2 v7 x0) (L37_2 v7 x0)) := by
  intro n
  induction n with
  | zero => exact ⟨fun _ _ h => by simp only [R37] at h, fun _ _ _ h => by simp only [R37_2] at h⟩
  | succ n ih =>
  obtain ⟨ih, ih2⟩ := ih
  refine ⟨?_, ?_⟩
  · intro x0 ds h w0 O q
    rw [R37] at h
    exact AtV.runN tabOk ext37Ok mixed (p37_0 x0) trivial (ih2 _ _ _ h w0 O q)

  · intro v7 x0 ds h w0 O q
    rw [R37_2] at h
    by_cases b0 : (Decidable.decide (v7 < (↑(List.length x0) : Int))) = true
    · rw [if_pos b0] at h
      obtain ⟨s0, s1, h⟩ := h
      obtain ⟨s2, h⟩ := h
      by_cases b1 : (!g84_0 (List.getD x0 (Int.toNat v7) (ByteArray.empty, ByteArray.empty, ByteArray.empty, ()))) = true
      · rw [if_pos b1] at h
        subst h
        exact AtV.fin Try.func37 tabOk ext37Ok mixed (p37_1 v7 x0) ⟨b0, s0, s1, s2, b1, rfl, trivial⟩
      · rw [if_neg b1] at h
        replace b1 := Bool.eq_false_iff.2 b1
        by_cases b2 : (Decidable.decide (v7 > 0)) = true
        · rw [if_pos b2] at h
          obtain ⟨s3, h⟩ := h
          obtain ⟨s4, s5, h⟩ := h
          by_cases b3 : (Decidable.decide (g85_0 (List.getD x0 (Int.toNat (v7 - 1)) (ByteArray.empty, ByteArray.empty, ByteArray.empty, ())) (List.getD x0 (Int.toNat v7) (ByteArray.empty, ByteArray.empty, ByteArray.empty, ())) ≥ 0)) = true
          · rw [if_pos b3] at h
            subst h
            exact AtV.fin Try.func37 tabOk ext37Ok mixed (p37_2 v7 x0) ⟨b0, s0, s1, s2, b1, b2, s3, s4, s5, trivial, b3, trivial⟩
          · rw [if_neg b3] at h
            replace b3 := Bool.eq_false_iff.2 b3
            obtain ⟨s6, h⟩ := h
            exact AtV.runN tabOk ext37Ok mixed (p37_3 v7 x0) ⟨b0, s0, s1, s2, b1, b2, s3, s4, s5, trivial, b3, s6, trivial⟩ (ih2 _ _ _ h w0 O q)
        · rw [if_neg b2] at h
          replace b2 := Bool.eq_false_iff.2 b2
          obtain ⟨s3, h⟩ := h
          exact AtV.runN tabOk ext37Ok mixed (p37_4 v7 x0) ⟨b0, s0, s1, s2, b1, b2, rfl, s3, trivial⟩ (ih2 _ _ _ h w0 O q)
    · rw [if_neg b0] at h
      replace b0 := Bool.eq_false_iff.2 b0
      subst h
      exact AtV.fin Try.func37 tabOk ext37Ok mixed (p37_5 v7 x0) ⟨b0, trivial⟩



/-- A block at its place. -/
def ok37 (x0 : List (ByteArray × ByteArray × ByteArray × Unit)) (i : Nat) (x : ByteArray × ByteArray × ByteArray × Unit) : Bool :=
  g84_0 x && (i == 0 || !decide (g85_0 (x0.getD (i - 1) (ByteArray.empty, ByteArray.empty, ByteArray.empty, ())) x ≥ 0))
def g37_0 (x0 : List (ByteArray × ByteArray × ByteArray × Unit)) : Bool := allI (ok37 x0) 0 x0 && decide (x0.length ≤ 32)
def P37 (x0 : List (ByteArray × ByteArray × ByteArray × Unit)) : Prop := True

theorem step37 (n i : Nat) (x0 : List (ByteArray × ByteArray × ByteArray × Unit)) (hm : x0.length ≤ maxLen) (hi : i < x0.length) (ds : List Dyn) :
    (if ok37 x0 i (x0.getD i (ByteArray.empty, ByteArray.empty, ByteArray.empty, ())) = true then R37_2 n ((i : Int) + 1) x0 ds else ds = [⟨.bool, false⟩]) → R37_2 (n + 1) (i : Int) x0 ds := by
  intro h
  have hu := inR_up hm hi
  rw [R37_2, if_pos (by simp; omega)]
  refine ⟨by omega, by omega, ?_⟩
  simp only [Int.toNat_natCast]
  unfold ok37 at h
  refine ⟨pre84 _, ?_⟩
  by_cases h1 : g84_0 (x0.getD i (ByteArray.empty, ByteArray.empty, ByteArray.empty, ())) = true
  case neg =>
    have h1 := Bool.eq_false_iff.2 h1
    rw [h1] at h
    rw [if_pos (by rw [h1]; rfl)]
    simpa using h
  case pos =>
    rw [h1] at h
    rw [if_neg (by rw [h1]; simp)]
    by_cases h0 : (i : Int) > 0
    · rw [if_pos (by simpa using h0)]
      have hi0 : (i == 0) = false := by simp; omega
      have e : ((i : Int) - 1).toNat = i - 1 := by omega
      refine ⟨by rw [i64_iff]; have : maxLen ≤ 9223372036854775807 := by decide
                 omega, by omega, by omega, ?_⟩
      rw [e]
      by_cases h2 : g85_0 (x0.getD (i - 1) (ByteArray.empty, ByteArray.empty, ByteArray.empty, ())) (x0.getD i (ByteArray.empty, ByteArray.empty, ByteArray.empty, ())) ≥ 0
      · rw [if_pos (by simpa using h2)]
        rw [hi0, decide_eq_true h2] at h
        simpa using h
      · rw [if_neg (by simpa using h2)]
        rw [hi0, decide_eq_false h2] at h
        exact ⟨hu, by simpa using h⟩
    · rw [if_neg (by simpa using h0)]
      have hi0 : (i == 0) = true := by simp; omega
      rw [hi0] at h
      exact ⟨hu, by simpa using h⟩

theorem top37 (x0 : List (ByteArray × ByteArray × ByteArray × Unit)) (hw : x0.length ≤ maxLen) : R37 (x0.length + 1 + 1) x0 [⟨.bool, g37_0 x0⟩] := by
  rw [R37]
  have key := loop_testI x0 (ByteArray.empty, ByteArray.empty, ByteArray.empty, ()) (ok37 x0) [(⟨.bool, false⟩ : Dyn)] [⟨.bool, decide (x0.length ≤ 32)⟩] (fun n i ds => R37_2 n i x0 ds) (fun n => ?_) (fun n i hi hok ds hr => ?_) (fun n i hi hok => ?_)
  · unfold g37_0
    cases h : allI (ok37 x0) 0 x0 with
    | true => rw [if_pos h] at key; simpa using key
    | false => rw [if_neg (by rw [h]; simp)] at key; simpa using key
  · rw [R37_2, if_neg (by simp)]
    have hc : decide ((x0.length : Int) ≤ 32) = decide (x0.length ≤ 32) := by
      congr 1; exact propext ⟨fun h => by omega, fun h => by omega⟩
    rw [hc]
  · exact step37 n i x0 hw hi ds (by rw [if_pos hok]; exact hr)
  · exact step37 n i x0 hw hi _ (by rw [if_neg (by rw [hok]; simp)])

def S37 : Am.Spec := { sig := sig37, pre := fun ⟨x0, _⟩ => P37 x0, res := fun ⟨x0, _⟩ => [⟨Ty.bool, g37_0 x0⟩] }
theorem con37 : Contract Try.prog 37 S37 := contract_of Try.func37 hb37 (Nat.le_of_ble_eq_true (by kernel_rfl)) (fun ⟨x0, _⟩ h hwf w0 O q =>
  (snd37 _).1 x0 _ (top37 x0 hwf.1.1) w0 O q)

end Go.Proofs.Ytjkeinpcphkfbaa

/- Function 86 (laws.eqBlock): its runs between cut points. Written by a program of this repo (gen). -/
set_option linter.unusedVariables false
set_option linter.unusedSimpArgs false
set_option maxRecDepth 100000
namespace Go.Proofs.Ytjkeinpcphkfbaa
open Go Go.Am Go.Proofs
def ext86 : Ext := []
theorem ext86Ok : ExtOk Try.prog ext86 := trivial
/-! Function 86. -/
noncomputable def b86 : Code := bodyOf Try.f86
theorem hb86 : Try.f86.body = some b86 := by kernel_rfl
def sig86 : List AT := [AT.v (Ty.cons Ty.str (Ty.cons Ty.str (Ty.cons Ty.str Ty.unit))), AT.v (Ty.cons Ty.str (Ty.cons Ty.str (Ty.cons Ty.str Ty.unit)))]
def tys86 : List Ty := [Ty.bool]
def P86 (x0 : ByteArray × ByteArray × ByteArray × Unit) (x1 : ByteArray × ByteArray × ByteArray × Unit) : Prop := True
def g86_0 (x0 : ByteArray × ByteArray × ByteArray × Unit) (x1 : ByteArray × ByteArray × ByteArray × Unit) : Bool := (if (!ByteArray.toList (Prod.fst x0) == ByteArray.toList (Prod.fst x1)) = true then Bool.false else (if (!ByteArray.toList (Prod.fst (Prod.snd x0)) == ByteArray.toList (Prod.fst (Prod.snd x1))) = true then Bool.false else (if (!ByteArray.toList (Prod.fst (Prod.snd (Prod.snd x0))) == ByteArray.toList (Prod.fst (Prod.snd (Prod.snd x1)))) = true then Bool.false else Bool.true)))
theorem p86_0 (x0 : ByteArray × ByteArray × ByteArray × Unit) (x1 : ByteArray × ByteArray × ByteArray × Unit) : runF tab ext86 false 20 [] 2000 [] tys86 Try.f86.results [true] [.code b86] (entE 0 0 sig86 (x0, x1, ())) (entL sig86 (x0, x1, ())) = some ([Dyn.mk Ty.bool Bool.false], [], [(!ByteArray.toList (Prod.fst x0) == ByteArray.toList (Prod.fst x1)) = Bool.true]) := by kernel_rfl
theorem p86_1 (x0 : ByteArray × ByteArray × ByteArray × Unit) (x1 : ByteArray × ByteArray × ByteArray × Unit) : runF tab ext86 false 20 [] 2000 [] tys86 Try.f86.results [false, true] [.code b86] (entE 0 0 sig86 (x0, x1, ())) (entL sig86 (x0, x1, ())) = some ([Dyn.mk Ty.bool Bool.false], [], [(!ByteArray.toList (Prod.fst x0) == ByteArray.toList (Prod.fst x1)) = Bool.false, (!ByteArray.toList (Prod.fst (Prod.snd x0)) == ByteArray.toList (Prod.fst (Prod.snd x1))) = Bool.true]) := by kernel_rfl
theorem p86_2 (x0 : ByteArray × ByteArray × ByteArray × Unit) (x1 : ByteArray × ByteArray × ByteArray × Unit) : runF tab ext86 false 20 [] 2000 [] tys86 Try.f86.results [false, false, true] [.code b86] (entE 0 0 sig86 (x0, x1, ())) (entL sig86 (x0, x1, ())) = some ([Dyn.mk Ty.bool Bool.false], [], [(!ByteArray.toList (Prod.fst x0) == ByteArray.toList (Prod.fst x1)) = Bool.false, (!ByteArray.toList (Prod.fst (Prod.snd x0)) == ByteArray.toList (Prod.fst (Prod.snd x1))) = Bool.false, (!ByteArray.toList (Prod.fst (Prod.snd (Prod.snd x0))) == ByteArray.toList (Prod.fst (Prod.snd (Prod.snd x1)))) = Bool.true]) := by kernel_rfl
theorem p86_3 (x0 : ByteArray × ByteArray × ByteArray × Unit) (x1 : ByteArray × ByteArray × ByteArray × Unit) : runF tab ext86 false 20 [] 2000 [] tys86 Try.f86.results [false, false, false] [.code b86] (entE 0 0 sig86 (x0, x1, ())) (entL sig86 (x0, x1, ())) = some ([Dyn.mk Ty.bool Bool.true], [], [(!ByteArray.toList (Prod.fst x0) == ByteArray.toList (Prod.fst x1)) = Bool.false, (!ByteArray.toList (Prod.fst (Prod.snd x0)) == ByteArray.toList (Prod.fst (Prod.snd x1))) = Bool.false, (!ByteArray.toList (Prod.fst (Prod.snd (Prod.snd x0))) == ByteArray.toList (Prod.fst (Prod.snd (Prod.snd x1)))) = Bool.false]) := by kernel_rfl
theorem at86 (x0 : ByteArray × ByteArray × ByteArray × Unit) (x1 : ByteArray × ByteArray × ByteArray × Unit) (h : P86 x0 x1) (w0 : World) (O : List Nat) (q : Nat → Value) : AtV Try.prog 86 (PostR [⟨Ty.bool, g86_0 x0 x1⟩] [] [] q w0 O) 20 w0 O q [] [.code b86] (entE 0 0 sig86 (x0, x1, ())) (entL sig86 (x0, x1, ())) := by
  unfold P86 at h
  unfold g86_0
  by_cases b0 : (!ByteArray.toList (Prod.fst x0) == ByteArray.toList (Prod.fst x1)) = true
  · try simp only [if_pos b0] at h ⊢
    exact AtV.fin Try.func86 tabOk ext86Ok mixed (p86_0 x0 x1) ⟨b0, trivial⟩
  · try simp only [if_neg b0] at h ⊢
    replace b0 := Bool.eq_false_iff.2 b0
    by_cases b1 : (!ByteArray.toList (Prod.fst (Prod.snd x0)) == ByteArray.toList (Prod.fst (Prod.snd x1))) = true
    · try simp only [if_pos b1] at h ⊢
      exact AtV.fin Try.func86 tabOk ext86Ok mixed (p86_1 x0 x1) ⟨b0, b1, trivial⟩
    · try simp only [if_neg b1] at h ⊢
      replace b1 := Bool.eq_false_iff.2 b1
      by_cases b2 : (!ByteArray.toList (Prod.fst (Prod.snd (Prod.snd x0))) == ByteArray.toList (Prod.fst (Prod.snd (Prod.snd x1)))) = true
      · try simp only [if_pos b2] at h ⊢
        exact AtV.fin Try.func86 tabOk ext86Ok mixed (p86_2 x0 x1) ⟨b0, b1, b2, trivial⟩
      · try simp only [if_neg b2] at h ⊢
        replace b2 := Bool.eq_false_iff.2 b2
        exact AtV.fin Try.func86 tabOk ext86Ok mixed (p86_3 x0 x1) ⟨b0, b1, b2, trivial⟩

def S86 : Am.Spec := { sig := sig86, pre := fun ⟨x0, x1, _⟩ => P86 x0 x1, res := fun ⟨x0, x1, _⟩ => [⟨Ty.bool, g86_0 x0 x1⟩] }
theorem con86 : Contract Try.prog 86 S86 := contract_of Try.func86 hb86 (Nat.le_of_ble_eq_true (by kernel_rfl)) (fun ⟨x0, x1, _⟩ h _ w0 O q => at86 x0 x1 h w0 O q)


theorem eqd86 (x y : ByteArray × ByteArray × ByteArray × Unit) : g86_0 x y = true ↔ x = y := by
  obtain ⟨a, b, c, u⟩ := x
  obtain ⟨a', b', c', u'⟩ := y
  unfold g86_0
  simp only [Bool.not_eq_true', bytes_ne]
  by_cases h1 : a = a'
  · by_cases h2 : b = b'
    · by_cases h3 : c = c'
      · simp [h1, h2, h3]
      · simp [h1, h2, h3]
    · simp [h1, h2]
  · simp [h1]

end Go.Proofs.Ytjkeinpcphkfbaa

/- Function 38 (laws.eqBlockS): its runs between cut points. Written by a program of this repo (gen). -/
set_option linter.unusedVariables false
set_option linter.unusedSimpArgs false
set_option maxRecDepth 100000
namespace Go.Proofs.Ytjkeinpcphkfbaa
open Go Go.Am Go.Proofs
def ext38 : Ext := [(86, S86)]
theorem call38_86 : Callable Try.prog 86 := ⟨Try.f86, Try.func86, by kernel_rfl, by kernel_rfl⟩
theorem ext38Ok : ExtOk Try.prog ext38 := ⟨⟨call38_86, con86⟩, trivial⟩
/-! Function 38. -/
noncomputable def b38 : Code := bodyOf Try.f38
theorem hb38 : Try.f38.body = some b38 := by kernel_rfl
def sig38 : List AT := [AT.v (Ty.sl (Ty.cons Ty.str (Ty.cons Ty.str (Ty.cons Ty.str Ty.unit)))), AT.v (Ty.sl (Ty.cons Ty.str (Ty.cons Ty.str (Ty.cons Ty.str Ty.unit))))]
def tys38 : List Ty := [Ty.bool]
def E38_4 (v5 : Int) (x0 : List (ByteArray × ByteArray × ByteArray × Unit)) (x1 : List (ByteArray × ByteArray × ByteArray × Unit)) : Env := [(0, PV.a (Atom.sl (Ty.cons Ty.str (Ty.cons Ty.str (Ty.cons Ty.str Ty.unit))) x0)), (1, PV.a (Atom.sl (Ty.cons Ty.str (Ty.cons Ty.str (Ty.cons Ty.str Ty.unit))) x1)), (5, PV.a (Atom.val (Value.int IntKind.i64 v5)))]
def L38_4 (v5 : Int) (x0 : List (ByteArray × ByteArray × ByteArray × Unit)) (x1 : List (ByteArray × ByteArray × ByteArray × Unit)) : Heap := []
mutual
def R38 : Nat → List (ByteArray × ByteArray × ByteArray × Unit) → List (ByteArray × ByteArray × ByteArray × Unit) → List Dyn → Prop
  | 0, _, _, _ => False
  | n + 1, x0, x1, ds => (if ((↑(List.length x0) : Int) != (↑(List.length x1) : Int)) = true then (ds = [Dyn.mk Ty.bool Bool.false]) else (R38_4 n (0) (x0) (x1) ds))
def R38_4 : Nat → Int → List (ByteArray × ByteArray × ByteArray × Unit) → List (ByteArray × ByteArray × ByteArray × Unit) → List Dyn → Prop
  | 0, _, _, _, _ => False
  | n + 1, v5, x0, x1, ds => (if (Decidable.decide (v5 < (↑(List.length x0) : Int))) = true then ((0 ≤ v5) ∧ (v5 < (↑(List.length x0) : Int)) ∧ ((0 ≤ v5) ∧ (v5 < (↑(List.length x1) : Int)) ∧ (if (!g86_0 (List.getD x0 (Int.toNat v5) (ByteArray.empty, ByteArray.empty, ByteArray.empty, ())) (List.getD x1 (Int.toNat v5) (ByteArray.empty, ByteArray.empty, ByteArray.empty, ()))) = true then (ds = [Dyn.mk Ty.bool Bool.false]) else ((InR IntKind.i64 (v5 + 1)) ∧ (R38_4 n (v5 + 1) (x0) (x1) ds))))) else (ds = [Dyn.mk Ty.bool Bool.true]))
end
theorem p38_0 (x0 : List (ByteArray × ByteArray × ByteArray × Unit)) (x1 : List (ByteArray × ByteArray × ByteArray × Unit)) : runF tab ext38 false 27 [] 2000 [] tys38 Try.f38.results [true] [.code b38] (entE 0 0 sig38 (x0, x1, ())) (entL sig38 (x0, x1, ())) = some ([Dyn.mk Ty.bool Bool.false], [], [((↑(List.length x0) : Int) != (↑(List.length x1) : Int)) = Bool.true]) := by kernel_rfl
theorem p38_1 (x0 : List (ByteArray × ByteArray × ByteArray × Unit)) (x1 : List (ByteArray × ByteArray × ByteArray × Unit)) : Am.runN tab ext38 false 27 [] 2000 [] [] [0, 1, 5] [] [false] [.code b38] (entE 0 0 sig38 (x0, x1, ())) (entL sig38 (x0, x1, ())) = some (cutAt b38 4, E38_4 (0) (x0) (x1), L38_4 (0) (x0) (x1), [((↑(List.length x0) : Int) != (↑(List.length x1) : Int)) = Bool.false]) := by kernel_rfl
theorem p38_2 (v5 : Int) (x0 : List (ByteArray × ByteArray × ByteArray × Unit)) (x1 : List (ByteArray × ByteArray × ByteArray × Unit)) : runF tab ext38 false 27 [] 2000 [] tys38 Try.f38.results [true, true] (cutAt b38 4) (E38_4 v5 x0 x1) (L38_4 v5 x0 x1) = some ([Dyn.mk Ty.bool Bool.false], [], [Decidable.decide (v5 < (↑(List.length x0) : Int)) = Bool.true, 0 ≤ v5, v5 < (↑(List.length x0) : Int), 0 ≤ v5, v5 < (↑(List.length x1) : Int), True, (!g86_0 (List.getD x0 (Int.toNat v5) (ByteArray.empty, ByteArray.empty, ByteArray.empty, ())) (List.getD x1 (Int.toNat v5) (ByteArray.empty, ByteArray.empty, ByteArray.empty, ()))) = Bool.true]) := by kernel_rfl
theorem p38_3 (v5 : Int) (x0 : List (ByteArray × ByteArray × ByteArray × Unit)) (x1 : List (ByteArray × ByteArray × ByteArray × Unit)) : Am.runN tab ext38 false 27 [] 2000 [] [] [0, 1, 5] [] [true, false] (cutAt b38 4) (E38_4 v5 x0 x1) (L38_4 v5 x0 x1) = some (cutAt b38 4, E38_4 (v5 + 1) (x0) (x1), L38_4 (v5 + 1) (x0) (x1), [Decidable.decide (v5 < (↑(List.length x0) : Int)) = Bool.true, 0 ≤ v5, v5 < (↑(List.length x0) : Int), 0 ≤ v5, v5 < (↑(List.length x1) : Int), True, (!g86_0 (List.getD x0 (Int.toNat v5) (ByteArray.empty, ByteArray.empty, ByteArray.empty, ())) (List.getD x1 (Int.toNat v5) (ByteArray.empty, ByteArray.empty, ByteArray.empty, ()))) = Bool.false, InR IntKind.i64 (v5 + 1)]) := by kernel_rfl
theorem p38_4 (v5 : Int) (x0 : List (ByteArray × ByteArray × ByteArray × Unit)) (x1 : List (ByteArray × ByteArray × ByteArray × Unit)) : runF tab ext38 false 27 [] 2000 [] tys38 Try.f38.results [false] (cutAt b38 4) (E38_4 v5 x0 x1) (L38_4 v5 x0 x1) = some ([Dyn.mk Ty.bool Bool.true], [], [Decidable.decide (v5 < (↑(List.length x0) : Int)) = Bool.false]) := by kernel_rfl
theorem snd38 : ∀ n, (∀ (x0 : List (ByteArray × ByteArray × ByteArray × Unit)) (x1 : List (ByteArray × ByteArray × ByteArray × Unit)) ds, R38 n x0 x1 ds → ∀ w0 O q, AtV Try.prog 38 (PostR ds [] [] q w0 O) 27 w0 O q [] [.code b38] (entE 0 0 sig38 (x0, x1, ())) (entL sig38 (x0, x1, ()))) ∧ (∀ (v5 : Int) (x0 : List (ByteArray × ByteArray × ByteArray × Unit)) (x1 : List (ByteArray × ByteArray × ByteArray × Unit)) ds, R38_4 n v5 x0 x1 ds → ∀ w0 O q, AtV Try.prog 38 (PostR ds [] [] q w0 O) 27 w0 O q [] (cutAt b38 4) (E38_4 v5 x0 x1) (L38_4 v5 x0 x1)) := by
  intro n
  induction n with
  | zero => exact ⟨fun _ _ _ h => by simp only [R38] at h, fun _ _ _ _ h => by simp only [R38_4] at h⟩
  | succ n ih =>
  obtain ⟨ih, ih4⟩ := ih
  refine ⟨?_, ?_⟩
  · intro x0 x1 ds h w0 O q
    rw [R38] at h
    by_cases b0 : ((↑(List.length x0) : Int) != (↑(List.length x1) : Int)) = true
    · rw [if_pos b0] at h
      subst h
      exact AtV.fin Try.func38 tabOk ext38Ok mixed (p38_0 x0 x1) ⟨b0, trivial⟩
    · rw [if_neg b0] at h
      replace b0 := Bool.eq_false_iff.2 b0
      exact AtV.runN tabOk ext38Ok mixed (p38_1 x0 x1) ⟨b0, trivial⟩ (ih4 _ _ _ _ h w0 O q)

  · intro v5 x0 x1 ds h w0 O q
    rw [R38_4] at h
    by_cases b0 : (Decidable.decide (v5 < (↑(List.length x0) : Int))) = true
    · rw [if_pos b0] at h
      obtain ⟨s0, s1, h⟩ := h
      obtain ⟨s2, s3, h⟩ := h
      by_cases b1 : (!g86_0 (List.getD x0 (Int.toNat v5) (ByteArray.empty, ByteArray.empty, ByteArray.empty, ())) (List.getD x1 (Int.toNat v5) (ByteArray.empty, ByteArray.empty, ByteArray.empty, ()))) = true
      · rw [if_pos b1] at h
        subst h
        exact AtV.fin Try.func38 tabOk ext38Ok mixed (p38_2 v5 x0 x1) ⟨b0, s0, s1, s2, s3, trivial, b1, trivial⟩
      · rw [if_neg b1] at h
        replace b1 := Bool.eq_false_iff.2 b1
        obtain ⟨s4, h⟩ := h
        exact AtV.runN tabOk ext38Ok mixed (p38_3 v5 x0 x1) ⟨b0, s0, s1, s2, s3, trivial, b1, s4, trivial⟩ (ih4 _ _ _ _ h w0 O q)
    · rw [if_neg b0] at h
      replace b0 := Bool.eq_false_iff.2 b0
      subst h
      exact AtV.fin Try.func38 tabOk ext38Ok mixed (p38_4 v5 x0 x1) ⟨b0, trivial⟩



theorem eq38 (x0 x1 : List (ByteArray × ByteArray × ByteArray × Unit)) (hl : x0.length = x1.length) (hm : x0.length ≤ maxLen) : ∀ k i : Nat, i + k = x0.length → R38_4 (k + 1) (i : Int) x0 x1 [⟨.bool, decide (x0.drop i = x1.drop i)⟩] := by
  intro k
  induction k with
  | zero =>
    intro i hi
    have h1 : ¬ (i : Int) < (x0.length : Int) := by omega
    rw [R38_4, if_neg (by simpa using h1), drop_end x0 i (by omega), drop_end x1 i (by omega)]
    simp
  | succ k ih =>
    intro i hi
    have h1 : (i : Int) < (x0.length : Int) := by omega
    rw [R38_4, if_pos (by simpa using h1)]
    refine ⟨by omega, h1, by omega, by omega, ?_⟩
    simp only [Int.toNat_natCast]
    rw [drop_get x0 i (ByteArray.empty, ByteArray.empty, ByteArray.empty, ()) (by omega), drop_get x1 i (ByteArray.empty, ByteArray.empty, ByteArray.empty, ()) (by omega)]
    by_cases he : x0.getD i (ByteArray.empty, ByteArray.empty, ByteArray.empty, ()) = x1.getD i (ByteArray.empty, ByteArray.empty, ByteArray.empty, ())
    · have hd := (eqd86 _ _).2 he
      rw [if_neg (by rw [hd]; simp)]
      refine ⟨inR_up hm (by omega), ?_⟩
      have := ih (i + 1) (by omega)
      simp only [he, List.cons.injEq, true_and]
      exact this
    · have hd : g86_0 (x0.getD i (ByteArray.empty, ByteArray.empty, ByteArray.empty, ())) (x1.getD i (ByteArray.empty, ByteArray.empty, ByteArray.empty, ())) = false :=
        Bool.eq_false_iff.2 fun h => he ((eqd86 _ _).1 h)
      rw [if_pos (by rw [hd]; rfl)]
      simp only [he, List.cons.injEq, false_and, decide_false]

def g38_0 (x0 x1 : List (ByteArray × ByteArray × ByteArray × Unit)) : Bool := decide (x0 = x1)
def P38 (x0 x1 : List (ByteArray × ByteArray × ByteArray × Unit)) : Prop := True
def S38 : Am.Spec := { sig := sig38, pre := fun ⟨x0, x1, _⟩ => P38 x0 x1, res := fun ⟨x0, x1, _⟩ => [⟨Ty.bool, g38_0 x0 x1⟩] }
theorem con38 : Contract Try.prog 38 S38 := contract_of Try.func38 hb38 (Nat.le_of_ble_eq_true (by kernel_rfl)) (fun ⟨x0, x1, _⟩ h hwf w0 O q => by
  refine (snd38 (x0.length + 2)).1 x0 x1 _ ?_ w0 O q
  show R38 (x0.length + 1 + 1) x0 x1 [⟨Ty.bool, decide (x0 = x1)⟩]
  rw [R38]
  by_cases hl : x0.length = x1.length
  · rw [if_neg (by simp [hl])]
    have := eq38 x0 x1 hl hwf.1.1 x0.length 0 (by omega)
    simpa using this
  · rw [if_pos (by simp; omega)]
    have : x0 ≠ x1 := fun h => hl (by rw [h])
    simp [this])

end Go.Proofs.Ytjkeinpcphkfbaa

/- Function 6 (laws.FnExactValidBlocks): its runs between cut points. Written by a program of this repo (gen). -/
set_option linter.unusedVariables false
set_option linter.unusedSimpArgs false
set_option maxRecDepth 100000
namespace Go.Proofs.Ytjkeinpcphkfbaa
open Go Go.Am Go.Proofs
def ext6 : Ext := [(34, S34), (36, S36), (35, S35), (37, S37), (38, S38)]
theorem call6_34 : Callable Try.prog 34 := ⟨Try.f34, Try.func34, by kernel_rfl, by kernel_rfl⟩
theorem call6_36 : Callable Try.prog 36 := ⟨Try.f36, Try.func36, by kernel_rfl, by kernel_rfl⟩
theorem call6_35 : Callable Try.prog 35 := ⟨Try.f35, Try.func35, by kernel_rfl, by kernel_rfl⟩
theorem call6_37 : Callable Try.prog 37 := ⟨Try.f37, Try.func37, by kernel_rfl, by kernel_rfl⟩
theorem call6_38 : Callable Try.prog 38 := ⟨Try.f38, Try.func38, by kernel_rfl, by kernel_rfl⟩
theorem ext6Ok : ExtOk Try.prog ext6 := ⟨⟨call6_34, con34⟩, ⟨call6_36, con36⟩, ⟨call6_35, con35⟩, ⟨call6_37, con37⟩, ⟨call6_38, con38⟩, trivial⟩
/-! Function 6. -/
noncomputable def b6 : Code := bodyOf Try.f6
theorem hb6 : Try.f6.body = some b6 := by kernel_rfl
def sig6 : List AT := [AT.v (Ty.sl (Ty.cons Ty.str (Ty.cons Ty.str (Ty.cons Ty.str Ty.unit))))]
def tys6 : List Ty := [Ty.bool]
def P6 (x0 : List (ByteArray × ByteArray × ByteArray × Unit)) : Prop := ((P34 x0 1048576) ∧ (if (Decidable.decide (g34_0 x0 1048576 < 0)) = true then True else ((P36 x0) ∧ ((P36 x0) ∧ (if (!g37_0 (g36_0 x0) == g35_0 (g36_0 x0)) = true then True else ((P36 x0) ∧ True))))))
def g6_0 (x0 : List (ByteArray × ByteArray × ByteArray × Unit)) : Bool := (if (Decidable.decide (g34_0 x0 1048576 < 0)) = true then Bool.true else (if (!g37_0 (g36_0 x0) == g35_0 (g36_0 x0)) = true then Bool.false else (if (!g38_0 (g36_0 x0) (g36_0 x0)) = true then Bool.false else Bool.true)))
theorem p6_0 (x0 : List (ByteArray × ByteArray × ByteArray × Unit)) : runF tab ext6 false 27 [] 2000 [] tys6 Try.f6.results [true] [.code b6] (entE 0 0 sig6 (x0, ())) (entL sig6 (x0, ())) = some ([Dyn.mk Ty.bool Bool.true], [], [P34 x0 1048576, Decidable.decide (g34_0 x0 1048576 < 0) = Bool.true]) := by kernel_rfl
theorem p6_1 (x0 : List (ByteArray × ByteArray × ByteArray × Unit)) : runF tab ext6 false 27 [] 2000 [] tys6 Try.f6.results [false, true] [.code b6] (entE 0 0 sig6 (x0, ())) (entL sig6 (x0, ())) = some ([Dyn.mk Ty.bool Bool.false], [], [P34 x0 1048576, Decidable.decide (g34_0 x0 1048576 < 0) = Bool.false, P36 x0, True, P36 x0, True, (!g37_0 (g36_0 x0) == g35_0 (g36_0 x0)) = Bool.true]) := by kernel_rfl
theorem p6_2 (x0 : List (ByteArray × ByteArray × ByteArray × Unit)) : runF tab ext6 false 27 [] 2000 [] tys6 Try.f6.results [false, false, true] [.code b6] (entE 0 0 sig6 (x0, ())) (entL sig6 (x0, ())) = some ([Dyn.mk Ty.bool Bool.false], [], [P34 x0 1048576, Decidable.decide (g34_0 x0 1048576 < 0) = Bool.false, P36 x0, True, P36 x0, True, (!g37_0 (g36_0 x0) == g35_0 (g36_0 x0)) = Bool.false, P36 x0, True, (!g38_0 (g36_0 x0) (g36_0 x0)) = Bool.true]) := by kernel_rfl
theorem p6_3 (x0 : List (ByteArray × ByteArray × ByteArray × Unit)) : runF tab ext6 false 27 [] 2000 [] tys6 Try.f6.results [false, false, false] [.code b6] (entE 0 0 sig6 (x0, ())) (entL sig6 (x0, ())) = some ([Dyn.mk Ty.bool Bool.true], [], [P34 x0 1048576, Decidable.decide (g34_0 x0 1048576 < 0) = Bool.false, P36 x0, True, P36 x0, True, (!g37_0 (g36_0 x0) == g35_0 (g36_0 x0)) = Bool.false, P36 x0, True, (!g38_0 (g36_0 x0) (g36_0 x0)) = Bool.false]) := by kernel_rfl
theorem at6 (x0 : List (ByteArray × ByteArray × ByteArray × Unit)) (h : P6 x0) (w0 : World) (O : List Nat) (q : Nat → Value) : AtV Try.prog 6 (PostR [⟨Ty.bool, g6_0 x0⟩] [] [] q w0 O) 27 w0 O q [] [.code b6] (entE 0 0 sig6 (x0, ())) (entL sig6 (x0, ())) := by
  unfold P6 at h
  unfold g6_0
  obtain ⟨s0, h⟩ := h
  by_cases b0 : (Decidable.decide (g34_0 x0 1048576 < 0)) = true
  · try simp only [if_pos b0] at h ⊢
    exact AtV.fin Try.func6 tabOk ext6Ok mixed (p6_0 x0) ⟨s0, b0, trivial⟩
  · try simp only [if_neg b0] at h ⊢
    replace b0 := Bool.eq_false_iff.2 b0
    obtain ⟨s1, h⟩ := h
    obtain ⟨s2, h⟩ := h
    by_cases b1 : (!g37_0 (g36_0 x0) == g35_0 (g36_0 x0)) = true
    · try simp only [if_pos b1] at h ⊢
      exact AtV.fin Try.func6 tabOk ext6Ok mixed (p6_1 x0) ⟨s0, b0, s1, trivial, s2, trivial, b1, trivial⟩
    · try simp only [if_neg b1] at h ⊢
      replace b1 := Bool.eq_false_iff.2 b1
      obtain ⟨s3, h⟩ := h
      by_cases b2 : (!g38_0 (g36_0 x0) (g36_0 x0)) = true
      · try simp only [if_pos b2] at h ⊢
        exact AtV.fin Try.func6 tabOk ext6Ok mixed (p6_2 x0) ⟨s0, b0, s1, trivial, s2, trivial, b1, s3, trivial, b2, trivial⟩
      · try simp only [if_neg b2] at h ⊢
        replace b2 := Bool.eq_false_iff.2 b2
        exact AtV.fin Try.func6 tabOk ext6Ok mixed (p6_3 x0) ⟨s0, b0, s1, trivial, s2, trivial, b1, s3, trivial, b2, trivial⟩

def S6 : Am.Spec := { sig := sig6, pre := fun ⟨x0, _⟩ => P6 x0, res := fun ⟨x0, _⟩ => [⟨Ty.bool, g6_0 x0⟩] }
theorem con6 : Contract Try.prog 6 S6 := contract_of Try.func6 hb6 (Nat.le_of_ble_eq_true (by kernel_rfl)) (fun ⟨x0, _⟩ h _ w0 O q => at6 x0 h w0 O q)


end Go.Proofs.Ytjkeinpcphkfbaa

/- A law that says how functions of the program and of the specification hang together. -/
set_option linter.unusedVariables false
set_option linter.unusedSimpArgs false
set_option maxRecDepth 100000
namespace Go.Proofs.Ytjkeinpcphkfbaa
open Go Go.Am Go.Proofs

theorem name_eq (s : ByteArray) : g116_0 s = g131_0 s := by
  have hs : ∀ c, g153_0 c = (decide (97 ≤ c) && decide (c ≤ 122)) := fun c => by
    unfold g153_0
    by_cases h1 : (97 : Int) ≤ c <;> simp [h1]
  have hd : ∀ c, g154_0 c = (decide (48 ≤ c) && decide (c ≤ 57)) := fun c => by
    unfold g154_0
    by_cases h1 : (48 : Int) ≤ c <;> simp [h1]
  unfold g116_0 g131_0
  have hl := bytesOf_length s
  by_cases h1 : 1 ≤ s.size
  · cases hb : bytesOf s with
    | nil => rw [hb] at hl; simp at hl; omega
    | cons c r =>
      have hr : allI ok116 1 r = r.all fun b => g153_0 b || g154_0 b := by
        rw [← allI_plain (fun b => g153_0 b || g154_0 b) r 1]
        refine allI_congr r 1 fun j x hj => ?_
        have : (j == 0) = false := by simp; omega
        simp only [ok116, this, hs, hd, Bool.not_false, Bool.true_and]
      have h0 : ok116 0 c = g153_0 c := by simp [ok116, hs]
      simp only [allI, hr, h0, List.all_cons, List.getD_cons_zero]
      cases g153_0 c <;> simp
  · simp [h1]

theorem contains_nl (s : ByteArray) : (!g82_0 s (ByteArray.mk #[10])) = (bytesOf s).all fun b => !(b == 10) := by
  show (!s.data.toList.contains 10) = ((s.data.toList.map fun b => (b.toNat : Int)).all fun b => !(b == 10))
  induction s.data.toList with
  | nil => rfl
  | cons c r ih =>
    rw [List.contains_cons, Bool.not_or, ih, List.map_cons, List.all_cons]
    congr 2
    by_cases h : c = 10
    · subst h; rfl
    · have h1 : ((10 : UInt8) == c) = false := by simp; exact fun e => h e.symm
      have h2 : ((c.toNat : Int) == 10) = false := by
        rw [beq_eq_false_iff_ne]
        intro e
        exact h (UInt8.toNat_inj.1 (by show c.toNat = 10; omega))
      rw [h1, h2]

theorem block_eq (x : ByteArray × ByteArray × ByteArray × Unit) : g84_0 x = g105_0 x := by
  obtain ⟨a, b, t, u⟩ := x
  unfold g84_0 g105_0
  simp only [name_eq, ← contains_nl]
  have hc : decide ((t.size : Int) ≤ 400) = decide (t.size ≤ 400) := by
    congr 1; exact propext ⟨fun h => by omega, fun h => by omega⟩
  rw [hc]
  cases g131_0 a <;> cases g131_0 b <;> cases decide (t.size ≤ 400) <;> cases g82_0 t (ByteArray.mk #[10]) <;> rfl

end Go.Proofs.Ytjkeinpcphkfbaa

/- A law that says how functions of the program and of the specification hang together. -/
set_option linter.unusedVariables false
set_option linter.unusedSimpArgs false
set_option maxRecDepth 100000
namespace Go.Proofs.Ytjkeinpcphkfbaa
open Go Go.Am Go.Proofs

theorem nan (s : ByteArray) : g136_0 s = false := by simp [g136_0]

theorem cmp_str (a b : ByteArray) : g118_0 a b = if Op.bytesLess (ByteArray.toList a) (ByteArray.toList b) = true then -1 else if (ByteArray.toList a == ByteArray.toList b) = true then 0 else 1 := by
  unfold g118_0
  simp only [nan, Bool.false_eq_true, if_false]
  cases Op.bytesLess (ByteArray.toList a) (ByteArray.toList b) <;> cases (ByteArray.toList a == ByteArray.toList b) <;> rfl

theorem before_cmp (a b : ByteArray × ByteArray × ByteArray × Unit) : (!decide (g85_0 a b ≥ 0)) = g115_0 a b := by
  unfold g85_0 g115_0
  simp only [g117_0, cmp_str]
  cases Op.bytesLess (ByteArray.toList a.1) (ByteArray.toList b.1) <;> cases (ByteArray.toList a.1 == ByteArray.toList b.1) <;> cases Op.bytesLess (ByteArray.toList a.2.1) (ByteArray.toList b.2.1) <;> cases (ByteArray.toList a.2.1 == ByteArray.toList b.2.1) <;> decide

theorem blocks_eq (x : List (ByteArray × ByteArray × ByteArray × Unit)) : g37_0 x = g83_0 x := by
  unfold g37_0 g83_0
  congr 1
  refine allI_congr x 0 fun j y _ => ?_
  unfold ok37 ok83
  rw [block_eq, before_cmp]

end Go.Proofs.Ytjkeinpcphkfbaa

/- The plain law of FnExactValidBlocks. -/
set_option linter.unusedVariables false
set_option linter.unusedSimpArgs false
set_option maxRecDepth 100000
namespace Go.Proofs.Ytjkeinpcphkfbaa
open Go Go.Am Go.Proofs

theorem law6 (x : List (ByteArray × ByteArray × ByteArray × Unit)) (hw : Wf (.sl (.cons .str (.cons .str (.cons .str .unit)))) x) : P6 x ∧ g6_0 x = true := by
  unfold P6 g6_0
  by_cases h : g34_0 x 1048576 < 0
  · simp only [h, decide_true, if_true, and_true]
    exact (show (0 : Int) ≤ 1048576 from by decide)
  · have hs := g34_le x 1048576 (by decide) (by decide) hw h
    have hp : P36 x := by
      show 48 * (x.length : Int) ≤ 281474976710656
      omega
    simp only [h, decide_false, Bool.false_eq_true, if_false, g36_0, g35_0, blocks_eq]
    refine ⟨⟨(show (0 : Int) ≤ 1048576 from by decide), hp, hp, ?_⟩, ?_⟩
    · split
      · trivial
      · exact ⟨hp, trivial⟩
    · simp [g38_0]

end Go.Proofs.Ytjkeinpcphkfbaa
