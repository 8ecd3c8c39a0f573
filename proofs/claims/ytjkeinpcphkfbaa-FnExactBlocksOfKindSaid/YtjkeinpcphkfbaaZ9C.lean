/- Several texts in one: the functions that this law reaches, and their laws. -/
import Derived.Test.YtjkeinpcphkfbaaZ9A
import Derived.Test.YtjkeinpcphkfbaaZ9B

/- Function 84 (impl.ValidBlock): its runs between cut points. Written by a program of this repo (gen). -/
set_option linter.unusedVariables false
set_option linter.unusedSimpArgs false
set_option maxRecDepth 100000
namespace Go.Proofs.Ytjkeinpcphkfbaa
open Go Go.Am Go.Proofs
def ext84 : Ext := [(116, S116), (82, S82)]
theorem call84_116 : Callable Try.prog 116 := ⟨Try.f116, Try.func116, by kernel_rfl, by kernel_rfl⟩
theorem call84_82 : Callable Try.prog 82 := ⟨Try.f82, Try.func82, by kernel_rfl, by kernel_rfl⟩
theorem ext84Ok : ExtOk Try.prog ext84 := ⟨⟨call84_116, con116⟩, ⟨call84_82, con82⟩, trivial⟩
/-! Function 84. -/
noncomputable def b84 : Code := bodyOf Try.f84
theorem hb84 : Try.f84.body = some b84 := by kernel_rfl
def sig84 : List AT := [AT.v (Ty.cons Ty.str (Ty.cons Ty.str (Ty.cons Ty.str Ty.unit)))]
def tys84 : List Ty := [Ty.bool]
def P84 (x0 : ByteArray × ByteArray × ByteArray × Unit) : Prop := (if (g116_0 (Prod.fst x0)) = true then (if (g116_0 (Prod.fst (Prod.snd x0))) = true then (if (Decidable.decide ((↑(ByteArray.size (Prod.fst (Prod.snd (Prod.snd x0)))) : Int) ≤ 400)) = true then ((P82 (Prod.fst (Prod.snd (Prod.snd x0))) (ByteArray.mk #[10])) ∧ True) else True) else True) else True)
def g84_0 (x0 : ByteArray × ByteArray × ByteArray × Unit) : Bool := (if (g116_0 (Prod.fst x0)) = true then (if (g116_0 (Prod.fst (Prod.snd x0))) = true then (if (Decidable.decide ((↑(ByteArray.size (Prod.fst (Prod.snd (Prod.snd x0)))) : Int) ≤ 400)) = true then !g82_0 (Prod.fst (Prod.snd (Prod.snd x0))) (ByteArray.mk #[10]) else Bool.false) else Bool.false) else Bool.false)
theorem p84_0 (x0 : ByteArray × ByteArray × ByteArray × Unit) : runF tab ext84 false 23 [] 2000 [] tys84 Try.f84.results [true, true, true] [.code b84] (entE 0 0 sig84 (x0, ())) (entL sig84 (x0, ())) = some ([Dyn.mk Ty.bool !g82_0 (Prod.fst (Prod.snd (Prod.snd x0))) (ByteArray.mk #[10])], [], [True, g116_0 (Prod.fst x0) = Bool.true, True, g116_0 (Prod.fst (Prod.snd x0)) = Bool.true, Decidable.decide ((↑(ByteArray.size (Prod.fst (Prod.snd (Prod.snd x0)))) : Int) ≤ 400) = Bool.true, P82 (Prod.fst (Prod.snd (Prod.snd x0))) (ByteArray.mk #[10])]) := by kernel_rfl
theorem p84_1 (x0 : ByteArray × ByteArray × ByteArray × Unit) : runF tab ext84 false 23 [] 2000 [] tys84 Try.f84.results [true, true, false] [.code b84] (entE 0 0 sig84 (x0, ())) (entL sig84 (x0, ())) = some ([Dyn.mk Ty.bool Bool.false], [], [True, g116_0 (Prod.fst x0) = Bool.true, True, g116_0 (Prod.fst (Prod.snd x0)) = Bool.true, Decidable.decide ((↑(ByteArray.size (Prod.fst (Prod.snd (Prod.snd x0)))) : Int) ≤ 400) = Bool.false]) := by kernel_rfl
theorem p84_2 (x0 : ByteArray × ByteArray × ByteArray × Unit) : runF tab ext84 false 23 [] 2000 [] tys84 Try.f84.results [true, false, false] [.code b84] (entE 0 0 sig84 (x0, ())) (entL sig84 (x0, ())) = some ([Dyn.mk Ty.bool Bool.false], [], [True, g116_0 (Prod.fst x0) = Bool.true, True, g116_0 (Prod.fst (Prod.snd x0)) = Bool.false, Bool.false = Bool.false]) := by kernel_rfl
theorem p84_3 (x0 : ByteArray × ByteArray × ByteArray × Unit) : runF tab ext84 false 23 [] 2000 [] tys84 Try.f84.results [false, false, false] [.code b84] (entE 0 0 sig84 (x0, ())) (entL sig84 (x0, ())) = some ([Dyn.mk Ty.bool Bool.false], [], [True, g116_0 (Prod.fst x0) = Bool.false, Bool.false = Bool.false, Bool.false = Bool.false]) := by kernel_rfl
theorem at84 (x0 : ByteArray × ByteArray × ByteArray × Unit) (h : P84 x0) (w0 : World) (O : List Nat) (q : Nat → Value) : AtV Try.prog 84 (PostR [⟨Ty.bool, g84_0 x0⟩] [] [] q w0 O) 23 w0 O q [] [.code b84] (entE 0 0 sig84 (x0, ())) (entL sig84 (x0, ())) := by
  unfold P84 at h
  unfold g84_0
  by_cases b0 : (g116_0 (Prod.fst x0)) = true
  · try simp only [if_pos b0] at h ⊢
    by_cases b1 : (g116_0 (Prod.fst (Prod.snd x0))) = true
    · try simp only [if_pos b1] at h ⊢
      by_cases b2 : (Decidable.decide ((↑(ByteArray.size (Prod.fst (Prod.snd (Prod.snd x0)))) : Int) ≤ 400)) = true
      · try simp only [if_pos b2] at h ⊢
        obtain ⟨s0, h⟩ := h
        exact AtV.fin Try.func84 tabOk ext84Ok mixed (p84_0 x0) ⟨trivial, b0, trivial, b1, b2, s0, trivial⟩
      · try simp only [if_neg b2] at h ⊢
        replace b2 := Bool.eq_false_iff.2 b2
        exact AtV.fin Try.func84 tabOk ext84Ok mixed (p84_1 x0) ⟨trivial, b0, trivial, b1, b2, trivial⟩
    · try simp only [if_neg b1] at h ⊢
      replace b1 := Bool.eq_false_iff.2 b1
      exact AtV.fin Try.func84 tabOk ext84Ok mixed (p84_2 x0) ⟨trivial, b0, trivial, b1, rfl, trivial⟩
  · try simp only [if_neg b0] at h ⊢
    replace b0 := Bool.eq_false_iff.2 b0
    exact AtV.fin Try.func84 tabOk ext84Ok mixed (p84_3 x0) ⟨trivial, b0, rfl, rfl, trivial⟩

def S84 : Am.Spec := { sig := sig84, pre := fun ⟨x0, _⟩ => P84 x0, res := fun ⟨x0, _⟩ => [⟨Ty.bool, g84_0 x0⟩] }
theorem con84 : Contract Try.prog 84 S84 := contract_of Try.func84 hb84 (Nat.le_of_ble_eq_true (by kernel_rfl)) (fun ⟨x0, _⟩ h _ w0 O q => at84 x0 h w0 O q)


theorem pre84 (x : ByteArray × ByteArray × ByteArray × Unit) : P84 x := by
  unfold P84
  split
  · split
    · split
      · exact ⟨rfl, trivial⟩
      · trivial
    · trivial
  · trivial

end Go.Proofs.Ytjkeinpcphkfbaa

/- Function 136 (cmp.isNaN[string]): its runs between cut points. Written by a program of this repo (gen). -/
set_option linter.unusedVariables false
set_option linter.unusedSimpArgs false
set_option maxRecDepth 100000
namespace Go.Proofs.Ytjkeinpcphkfbaa
open Go Go.Am Go.Proofs
def ext136 : Ext := []
theorem ext136Ok : ExtOk Try.prog ext136 := trivial
/-! Function 136. -/
noncomputable def b136 : Code := bodyOf Try.f136
theorem hb136 : Try.f136.body = some b136 := by kernel_rfl
def sig136 : List AT := [AT.v (Ty.str)]
def tys136 : List Ty := [Ty.bool]
def P136 (x0 : ByteArray) : Prop := True
def g136_0 (x0 : ByteArray) : Bool := !ByteArray.toList x0 == ByteArray.toList x0
theorem p136_0 (x0 : ByteArray) : runF tab ext136 false 6 [] 2000 [] tys136 Try.f136.results [] [.code b136] (entE 0 0 sig136 (x0, ())) (entL sig136 (x0, ())) = some ([Dyn.mk Ty.bool !ByteArray.toList x0 == ByteArray.toList x0], [], []) := by kernel_rfl
theorem at136 (x0 : ByteArray) (h : P136 x0) (w0 : World) (O : List Nat) (q : Nat → Value) : AtV Try.prog 136 (PostR [⟨Ty.bool, g136_0 x0⟩] [] [] q w0 O) 6 w0 O q [] [.code b136] (entE 0 0 sig136 (x0, ())) (entL sig136 (x0, ())) := by
  unfold P136 at h
  unfold g136_0
  exact AtV.fin Try.func136 tabOk ext136Ok mixed (p136_0 x0) trivial

def S136 : Am.Spec := { sig := sig136, pre := fun ⟨x0, _⟩ => P136 x0, res := fun ⟨x0, _⟩ => [⟨Ty.bool, g136_0 x0⟩] }
theorem con136 : Contract Try.prog 136 S136 := contract_of Try.func136 hb136 (Nat.le_of_ble_eq_true (by kernel_rfl)) (fun ⟨x0, _⟩ h _ w0 O q => at136 x0 h w0 O q)


end Go.Proofs.Ytjkeinpcphkfbaa

/- Function 118 (cmp.Compare[string]): its runs between cut points. Written by a program of this repo (gen). -/
set_option linter.unusedVariables false
set_option linter.unusedSimpArgs false
set_option maxRecDepth 100000
namespace Go.Proofs.Ytjkeinpcphkfbaa
open Go Go.Am Go.Proofs
def ext118 : Ext := [(136, S136)]
theorem call118_136 : Callable Try.prog 136 := ⟨Try.f136, Try.func136, by kernel_rfl, by kernel_rfl⟩
theorem ext118Ok : ExtOk Try.prog ext118 := ⟨⟨call118_136, con136⟩, trivial⟩
/-! Function 118. -/
noncomputable def b118 : Code := bodyOf Try.f118
theorem hb118 : Try.f118.body = some b118 := by kernel_rfl
def sig118 : List AT := [AT.v (Ty.str), AT.v (Ty.str)]
def tys118 : List Ty := [Ty.int IntKind.i64]
def P118 (x0 : ByteArray) (x1 : ByteArray) : Prop := True
def g118_0 (x0 : ByteArray) (x1 : ByteArray) : Int := (if (g136_0 x0) = true then (if (g136_0 x1) = true then 0 else -1) else (if (g136_0 x1) = true then 1 else (if (Op.bytesLess (ByteArray.toList x0) (ByteArray.toList x1)) = true then -1 else (if (!(Op.bytesLess (ByteArray.toList x0) (ByteArray.toList x1) || ByteArray.toList x0 == ByteArray.toList x1)) = true then 1 else 0))))
theorem p118_0 (x0 : ByteArray) (x1 : ByteArray) : runF tab ext118 false 20 [] 2000 [] tys118 Try.f118.results [true, true] [.code b118] (entE 0 0 sig118 (x0, x1, ())) (entL sig118 (x0, x1, ())) = some ([Dyn.mk (Ty.int IntKind.i64) 0], [], [True, True, g136_0 x0 = Bool.true, g136_0 x1 = Bool.true]) := by kernel_rfl
theorem p118_1 (x0 : ByteArray) (x1 : ByteArray) : runF tab ext118 false 20 [] 2000 [] tys118 Try.f118.results [true, false] [.code b118] (entE 0 0 sig118 (x0, x1, ())) (entL sig118 (x0, x1, ())) = some ([Dyn.mk (Ty.int IntKind.i64) (-1)], [], [True, True, g136_0 x0 = Bool.true, g136_0 x1 = Bool.false]) := by kernel_rfl
theorem p118_2 (x0 : ByteArray) (x1 : ByteArray) : runF tab ext118 false 20 [] 2000 [] tys118 Try.f118.results [false, true] [.code b118] (entE 0 0 sig118 (x0, x1, ())) (entL sig118 (x0, x1, ())) = some ([Dyn.mk (Ty.int IntKind.i64) 1], [], [True, True, g136_0 x0 = Bool.false, g136_0 x1 = Bool.true]) := by kernel_rfl
theorem p118_3 (x0 : ByteArray) (x1 : ByteArray) : runF tab ext118 false 20 [] 2000 [] tys118 Try.f118.results [false, false, true] [.code b118] (entE 0 0 sig118 (x0, x1, ())) (entL sig118 (x0, x1, ())) = some ([Dyn.mk (Ty.int IntKind.i64) (-1)], [], [True, True, g136_0 x0 = Bool.false, g136_0 x1 = Bool.false, Op.bytesLess (ByteArray.toList x0) (ByteArray.toList x1) = Bool.true]) := by kernel_rfl
theorem p118_4 (x0 : ByteArray) (x1 : ByteArray) : runF tab ext118 false 20 [] 2000 [] tys118 Try.f118.results [false, false, false, true] [.code b118] (entE 0 0 sig118 (x0, x1, ())) (entL sig118 (x0, x1, ())) = some ([Dyn.mk (Ty.int IntKind.i64) 1], [], [True, True, g136_0 x0 = Bool.false, g136_0 x1 = Bool.false, Op.bytesLess (ByteArray.toList x0) (ByteArray.toList x1) = Bool.false, (!(Op.bytesLess (ByteArray.toList x0) (ByteArray.toList x1) || ByteArray.toList x0 == ByteArray.toList x1)) = Bool.true]) := by kernel_rfl
theorem p118_5 (x0 : ByteArray) (x1 : ByteArray) : runF tab ext118 false 20 [] 2000 [] tys118 Try.f118.results [false, false, false, false] [.code b118] (entE 0 0 sig118 (x0, x1, ())) (entL sig118 (x0, x1, ())) = some ([Dyn.mk (Ty.int IntKind.i64) 0], [], [True, True, g136_0 x0 = Bool.false, g136_0 x1 = Bool.false, Op.bytesLess (ByteArray.toList x0) (ByteArray.toList x1) = Bool.false, (!(Op.bytesLess (ByteArray.toList x0) (ByteArray.toList x1) || ByteArray.toList x0 == ByteArray.toList x1)) = Bool.false]) := by kernel_rfl
theorem at118 (x0 : ByteArray) (x1 : ByteArray) (h : P118 x0 x1) (w0 : World) (O : List Nat) (q : Nat → Value) : AtV Try.prog 118 (PostR [⟨Ty.int IntKind.i64, g118_0 x0 x1⟩] [] [] q w0 O) 20 w0 O q [] [.code b118] (entE 0 0 sig118 (x0, x1, ())) (entL sig118 (x0, x1, ())) := by
  unfold P118 at h
  unfold g118_0
  by_cases b0 : (g136_0 x0) = true
  · try simp only [if_pos b0] at h ⊢
    by_cases b1 : (g136_0 x1) = true
    · try simp only [if_pos b1] at h ⊢
      exact AtV.fin Try.func118 tabOk ext118Ok mixed (p118_0 x0 x1) ⟨trivial, trivial, b0, b1, trivial⟩
    · try simp only [if_neg b1] at h ⊢
      replace b1 := Bool.eq_false_iff.2 b1
      exact AtV.fin Try.func118 tabOk ext118Ok mixed (p118_1 x0 x1) ⟨trivial, trivial, b0, b1, trivial⟩
  · try simp only [if_neg b0] at h ⊢
    replace b0 := Bool.eq_false_iff.2 b0
    by_cases b1 : (g136_0 x1) = true
    · try simp only [if_pos b1] at h ⊢
      exact AtV.fin Try.func118 tabOk ext118Ok mixed (p118_2 x0 x1) ⟨trivial, trivial, b0, b1, trivial⟩
    · try simp only [if_neg b1] at h ⊢
      replace b1 := Bool.eq_false_iff.2 b1
      by_cases b2 : (Op.bytesLess (ByteArray.toList x0) (ByteArray.toList x1)) = true
      · try simp only [if_pos b2] at h ⊢
        exact AtV.fin Try.func118 tabOk ext118Ok mixed (p118_3 x0 x1) ⟨trivial, trivial, b0, b1, b2, trivial⟩
      · try simp only [if_neg b2] at h ⊢
        replace b2 := Bool.eq_false_iff.2 b2
        by_cases b3 : (!(Op.bytesLess (ByteArray.toList x0) (ByteArray.toList x1) || ByteArray.toList x0 == ByteArray.toList x1)) = true
        · try simp only [if_pos b3] at h ⊢
          exact AtV.fin Try.func118 tabOk ext118Ok mixed (p118_4 x0 x1) ⟨trivial, trivial, b0, b1, b2, b3, trivial⟩
        · try simp only [if_neg b3] at h ⊢
          replace b3 := Bool.eq_false_iff.2 b3
          exact AtV.fin Try.func118 tabOk ext118Ok mixed (p118_5 x0 x1) ⟨trivial, trivial, b0, b1, b2, b3, trivial⟩

def S118 : Am.Spec := { sig := sig118, pre := fun ⟨x0, x1, _⟩ => P118 x0 x1, res := fun ⟨x0, x1, _⟩ => [⟨Ty.int IntKind.i64, g118_0 x0 x1⟩] }
theorem con118 : Contract Try.prog 118 S118 := contract_of Try.func118 hb118 (Nat.le_of_ble_eq_true (by kernel_rfl)) (fun ⟨x0, x1, _⟩ h _ w0 O q => at118 x0 x1 h w0 O q)


end Go.Proofs.Ytjkeinpcphkfbaa

/- Function 117 (cmp.Or[int]): its runs between cut points. Written by a program of this repo (gen). -/
set_option linter.unusedVariables false
set_option linter.unusedSimpArgs false
set_option maxRecDepth 100000
namespace Go.Proofs.Ytjkeinpcphkfbaa
open Go Go.Am Go.Proofs
def ext117 : Ext := []
theorem ext117Ok : ExtOk Try.prog ext117 := trivial
/-! Function 117. -/
noncomputable def b117 : Code := bodyOf Try.f117
theorem hb117 : Try.f117.body = some b117 := by kernel_rfl
def sig117 : List AT := [AT.v (Ty.sl (Ty.int IntKind.i64))]
def tys117 : List Ty := [Ty.int IntKind.i64]
def E117_3 (v8 : Int) (x0 : List Int) : Env := [(3, PV.a (Atom.val (Value.int IntKind.i64 0))), (6, PV.a (Atom.sl (Ty.int IntKind.i64) x0)), (7, PV.a (Atom.val (Value.int IntKind.i64 (↑(List.length x0) : Int)))), (8, PV.a (Atom.val (Value.int IntKind.i64 v8)))]
def L117_3 (v8 : Int) (x0 : List Int) : Heap := []
mutual
def R117 : Nat → List Int → List Dyn → Prop
  | 0, _, _ => False
  | n + 1, x0, ds => (R117_3 n (0) (x0) ds)
def R117_3 : Nat → Int → List Int → List Dyn → Prop
  | 0, _, _, _ => False
  | n + 1, v8, x0, ds => (if (Decidable.decide (v8 < (↑(List.length x0) : Int))) = true then ((0 ≤ v8) ∧ (v8 < (↑(List.length x0) : Int)) ∧ (if (List.getD x0 (Int.toNat v8) 0 != 0) = true then (ds = [Dyn.mk (Ty.int IntKind.i64) (List.getD x0 (Int.toNat v8) 0)]) else ((InR IntKind.i64 (v8 + 1)) ∧ (R117_3 n (v8 + 1) (x0) ds)))) else (ds = [Dyn.mk (Ty.int IntKind.i64) 0]))
end
theorem p117_0 (x0 : List Int) : Am.runN tab ext117 false 18 [] 2000 [] [] [3, 6, 7, 8] [] [] [.code b117] (entE 0 0 sig117 (x0, ())) (entL sig117 (x0, ())) = some (cutAt b117 3, E117_3 (0) (x0), L117_3 (0) (x0), []) := by kernel_rfl
theorem p117_1 (v8 : Int) (x0 : List Int) : runF tab ext117 false 18 [] 2000 [] tys117 Try.f117.results [true, true] (cutAt b117 3) (E117_3 v8 x0) (L117_3 v8 x0) = some ([Dyn.mk (Ty.int IntKind.i64) (List.getD x0 (Int.toNat v8) 0)], [], [Decidable.decide (v8 < (↑(List.length x0) : Int)) = Bool.true, 0 ≤ v8, v8 < (↑(List.length x0) : Int), (List.getD x0 (Int.toNat v8) 0 != 0) = Bool.true]) := by kernel_rfl
theorem p117_2 (v8 : Int) (x0 : List Int) : Am.runN tab ext117 false 18 [] 2000 [] [] [3, 6, 7, 8] [] [true, false] (cutAt b117 3) (E117_3 v8 x0) (L117_3 v8 x0) = some (cutAt b117 3, E117_3 (v8 + 1) (x0), L117_3 (v8 + 1) (x0), [Decidable.decide (v8 < (↑(List.length x0) : Int)) = Bool.true, 0 ≤ v8, v8 < (↑(List.length x0) : Int), (List.getD x0 (Int.toNat v8) 0 != 0) = Bool.false, InR IntKind.i64 (v8 + 1)]) := by kernel_rfl
theorem p117_3 (v8 : Int) (x0 : List Int) : runF tab ext117 false 18 [] 2000 [] tys117 Try.f117.results [false] (cutAt b117 3) (E117_3 v8 x0) (L117_3 v8 x0) = some ([Dyn.mk (Ty.int IntKind.i64) 0], [], [Decidable.decide (v8 < (↑(List.length x0) : Int)) = Bool.false]) := by kernel_rfl
theorem snd117 : ∀ n, (∀ (x0 : List Int) ds, R117 n x0 ds → ∀ w0 O q, AtV Try.prog 117 (PostR ds [] [] q w0 O) 18 w0 O q [] [.code b117] (entE 0 0 sig117 (x0, ())) (entL sig117 (x0, ()))) ∧ (∀ (v8 : Int) (x0 : List Int) ds, R117_3 n v8 x0 ds → ∀ w0 O q, AtV Try.prog 117 (PostR ds [] [] q w0 O) 18 w0 O q [] (cutAt b117 3) (E117_3 v8 x0) (L117_3 v8 x0)) := by
  intro n
  induction n with
  | zero => exact ⟨fun _ _ h => by simp only [R117] at h, fun _ _ _ h => by simp only [R117_3] at h⟩
  | succ n ih =>
  obtain ⟨ih, ih3⟩ := ih
  refine ⟨?_, ?_⟩
  · intro x0 ds h w0 O q
    rw [R117] at h
    exact AtV.runN tabOk ext117Ok mixed (p117_0 x0) trivial (ih3 _ _ _ h w0 O q)

  · intro v8 x0 ds h w0 O q
    rw [R117_3] at h
    by_cases b0 : (Decidable.decide (v8 < (↑(List.length x0) : Int))) = true
    · rw [if_pos b0] at h
      obtain ⟨s0, s1, h⟩ := h
      by_cases b1 : (List.getD x0 (Int.toNat v8) 0 != 0) = true
      · rw [if_pos b1] at h
        subst h
        exact AtV.fin Try.func117 tabOk ext117Ok mixed (p117_1 v8 x0) ⟨b0, s0, s1, b1, trivial⟩
      · rw [if_neg b1] at h
        replace b1 := Bool.eq_false_iff.2 b1
        obtain ⟨s2, h⟩ := h
        exact AtV.runN tabOk ext117Ok mixed (p117_2 v8 x0) ⟨b0, s0, s1, b1, s2, trivial⟩ (ih3 _ _ _ h w0 O q)
    · rw [if_neg b0] at h
      replace b0 := Bool.eq_false_iff.2 b0
      subst h
      exact AtV.fin Try.func117 tabOk ext117Ok mixed (p117_3 v8 x0) ⟨b0, trivial⟩



def g117_0 : List Int → Int
  | [] => 0
  | x :: r => if x != 0 then x else g117_0 r
def P117 (x0 : List Int) : Prop := True

theorem goL117 : ∀ (xs : List Int), goL (fun (_ : Unit) (x : Int) => if (x != 0) = true then Except.error [(⟨.int .i64, x⟩ : Dyn)] else .ok ()) (fun _ => [⟨.int .i64, (0 : Int)⟩]) () xs = [⟨.int .i64, g117_0 xs⟩]
  | [] => rfl
  | x :: r => by
    simp only [goL, g117_0]
    cases h : x != 0 with
    | true => simp
    | false => simpa using goL117 r

theorem top117 (x0 : List Int) (hm : x0.length ≤ maxLen) : R117 (x0.length + 1 + 1) x0 [⟨.int .i64, g117_0 x0⟩] := by
  rw [R117, ← goL117]
  refine loop_all x0 0 _ _ (fun _ _ => True) (fun n i _ ds => R117_3 n i x0 ds) trivial ?_ ?_
  · intro n b _
    show R117_3 (n + 1) x0.length x0 _
    rw [R117_3, if_neg (by simp)]
  · intro n i b hi _
    cases h : (x0.getD i 0 != 0) with
    | true =>
      show R117_3 (n + 1) (i : Int) x0 _
      rw [R117_3, if_pos (by simp; omega)]
      refine ⟨by omega, by omega, ?_⟩
      simp only [Int.toNat_natCast]
      rw [if_pos h] <;> trivial
    | false =>
      refine ⟨trivial, fun ds hr => ?_⟩
      rw [R117_3, if_pos (by simp; omega)]
      refine ⟨by omega, by omega, ?_⟩
      simp only [Int.toNat_natCast]
      rw [if_neg (by rw [h]; simp)]
      exact ⟨inR_up hm hi, hr⟩

def S117 : Am.Spec := { sig := sig117, pre := fun ⟨x0, _⟩ => P117 x0, res := fun ⟨x0, _⟩ => [⟨Ty.int .i64, g117_0 x0⟩] }
theorem con117 : Contract Try.prog 117 S117 := contract_of Try.func117 hb117 (Nat.le_of_ble_eq_true (by kernel_rfl)) (fun ⟨x0, _⟩ h hwf w0 O q =>
  (snd117 _).1 x0 _ (top117 x0 hwf.1.1) w0 O q)

end Go.Proofs.Ytjkeinpcphkfbaa

/- Function 85 (impl.compareBlocks): its runs between cut points. Written by a program of this repo (gen). -/
set_option linter.unusedVariables false
set_option linter.unusedSimpArgs false
set_option maxRecDepth 100000
namespace Go.Proofs.Ytjkeinpcphkfbaa
open Go Go.Am Go.Proofs
def ext85 : Ext := [(118, S118), (117, S117)]
theorem call85_118 : Callable Try.prog 118 := ⟨Try.f118, Try.func118, by kernel_rfl, by kernel_rfl⟩
theorem call85_117 : Callable Try.prog 117 := ⟨Try.f117, Try.func117, by kernel_rfl, by kernel_rfl⟩
theorem ext85Ok : ExtOk Try.prog ext85 := ⟨⟨call85_118, con118⟩, ⟨call85_117, con117⟩, trivial⟩
/-! Function 85. -/
noncomputable def b85 : Code := bodyOf Try.f85
theorem hb85 : Try.f85.body = some b85 := by kernel_rfl
def sig85 : List AT := [AT.v (Ty.cons Ty.str (Ty.cons Ty.str (Ty.cons Ty.str Ty.unit))), AT.v (Ty.cons Ty.str (Ty.cons Ty.str (Ty.cons Ty.str Ty.unit)))]
def tys85 : List Ty := [Ty.int IntKind.i64]
def P85 (x0 : ByteArray × ByteArray × ByteArray × Unit) (x1 : ByteArray × ByteArray × ByteArray × Unit) : Prop := True
def g85_0 (x0 : ByteArray × ByteArray × ByteArray × Unit) (x1 : ByteArray × ByteArray × ByteArray × Unit) : Int := g117_0 [g118_0 (Prod.fst x0) (Prod.fst x1), g118_0 (Prod.fst (Prod.snd x0)) (Prod.fst (Prod.snd x1))]
theorem p85_0 (x0 : ByteArray × ByteArray × ByteArray × Unit) (x1 : ByteArray × ByteArray × ByteArray × Unit) : runF tab ext85 false 17 [] 2000 [] tys85 Try.f85.results [] [.code b85] (entE 0 0 sig85 (x0, x1, ())) (entL sig85 (x0, x1, ())) = some ([Dyn.mk (Ty.int IntKind.i64) (g117_0 [g118_0 (Prod.fst x0) (Prod.fst x1), g118_0 (Prod.fst (Prod.snd x0)) (Prod.fst (Prod.snd x1))])], [], [True, True, True]) := by kernel_rfl
theorem at85 (x0 : ByteArray × ByteArray × ByteArray × Unit) (x1 : ByteArray × ByteArray × ByteArray × Unit) (h : P85 x0 x1) (w0 : World) (O : List Nat) (q : Nat → Value) : AtV Try.prog 85 (PostR [⟨Ty.int IntKind.i64, g85_0 x0 x1⟩] [] [] q w0 O) 17 w0 O q [] [.code b85] (entE 0 0 sig85 (x0, x1, ())) (entL sig85 (x0, x1, ())) := by
  unfold P85 at h
  unfold g85_0
  exact AtV.fin Try.func85 tabOk ext85Ok mixed (p85_0 x0 x1) ⟨trivial, trivial, trivial, trivial⟩

def S85 : Am.Spec := { sig := sig85, pre := fun ⟨x0, x1, _⟩ => P85 x0 x1, res := fun ⟨x0, x1, _⟩ => [⟨Ty.int IntKind.i64, g85_0 x0 x1⟩] }
theorem con85 : Contract Try.prog 85 S85 := contract_of Try.func85 hb85 (Nat.le_of_ble_eq_true (by kernel_rfl)) (fun ⟨x0, x1, _⟩ h _ w0 O q => at85 x0 x1 h w0 O q)


end Go.Proofs.Ytjkeinpcphkfbaa

/- Function 37 (impl.ValidBlocks): its runs between cut points. Written by a program of this repo (gen). -/
set_option linter.unusedVariables false
set_option linter.unusedSimpArgs false
set_option maxRecDepth 100000
namespace Go.Proofs.Ytjkeinpcphkfbaa
open Go Go.Am Go.Proofs
def ext37 : Ext := [(84, S84), (85, S85)]
theorem call37_84 : Callable Try.prog 84 := ⟨Try.f84, Try.func84, by kernel_rfl, by kernel_rfl⟩
theorem call37_85 : Callable Try.prog 85 := ⟨Try.f85, Try.func85, by kernel_rfl, by kernel_rfl⟩
theorem ext37Ok : ExtOk Try.prog ext37 := ⟨⟨call37_84, con84⟩, ⟨call37_85, con85⟩, trivial⟩
/-! Function 37. -/
noncomputable def b37 : Code := bodyOf Try.f37
theorem hb37 : Try.f37.body = some b37 := by kernel_rfl
def sig37 : List AT := [AT.v (Ty.sl (Ty.cons Ty.str (Ty.cons Ty.str (Ty.cons Ty.str Ty.unit))))]
def tys37 : List Ty := [Ty.bool]
def E37_2 (v7 : Int) (x0 : List (ByteArray × ByteArray × ByteArray × Unit)) : Env := [(0, PV.a (Atom.sl (Ty.cons Ty.str (Ty.cons Ty.str (Ty.cons Ty.str Ty.unit))) x0)), (5, PV.a (Atom.sl (Ty.cons Ty.str (Ty.cons Ty.str (Ty.cons Ty.str Ty.unit))) x0)), (6, PV.a (Atom.val (Value.int IntKind.i64 (↑(List.length x0) : Int)))), (7, PV.a (Atom.val (Value.int IntKind.i64 v7)))]
def L37_2 (v7 : Int) (x0 : List (ByteArray × ByteArray × ByteArray × Unit)) : Heap := []
mutual
def R37 : Nat → List (ByteArray × ByteArray × ByteArray × Unit) → List Dyn → Prop
  | 0, _, _ => False
  | n + 1, x0, ds => (R37_2 n (0) (x0) ds)
def R37_2 : Nat → Int → List (ByteArray × ByteArray × ByteArray × Unit) → List Dyn → Prop
  | 0, _, _, _ => False
  | n + 1, v7, x0, ds => (if (Decidable.decide (v7 < (↑(List.length x0) : Int))) = true then ((0 ≤ v7) ∧ (v7 < (↑(List.length x0) : Int)) ∧ ((P84 (List.getD x0 (Int.toNat v7) (ByteArray.empty, ByteArray.empty, ByteArray.empty, ()))) ∧ (if (!g84_0 (List.getD x0 (Int.toNat v7) (ByteArray.empty, ByteArray.empty, ByteArray.empty, ()))) = true then (ds = [Dyn.mk Ty.bool Bool.false]) else (if (Decidable.decide (v7 > 0)) = true then ((InR IntKind.i64 (v7 - 1)) ∧ ((0 ≤ v7 - 1) ∧ (v7 - 1 < (↑(List.length x0) : Int)) ∧ (if (Decidable.decide (g85_0 (List.getD x0 (Int.toNat (v7 - 1)) (ByteArray.empty, ByteArray.empty, ByteArray.empty, ())) (List.getD x0 (Int.toNat v7) (ByteArray.empty, ByteArray.empty, ByteArray.empty, ())) ≥ 0)) = true then (ds = [Dyn.mk Ty.bool Bool.false]) else ((InR IntKind.i64 (v7 + 1)) ∧ (R37_2 n (v7 + 1) (x0) ds))))) else ((InR IntKind.i64 (v7 + 1)) ∧ (R37_2 n (v7 + 1) (x0) ds)))))) else (ds = [Dyn.mk Ty.bool (Decidable.decide ((↑(List.length x0) : Int) ≤ 32))]))
end
theorem p37_0 (x0 : List (ByteArray × ByteArray × ByteArray × Unit)) : Am.runN tab ext37 false 33 [] 2000 [] [] [0, 5, 6, 7] [] [] [.code b37] (entE 0 0 sig37 (x0, ())) (entL sig37 (x0, ())) = some (cutAt b37 2, E37_2 (0) (x0), L37_2 (0) (x0), []) := by kernel_rfl
theorem p37_1 (v7 : Int) (x0 : List (ByteArray × ByteArray × ByteArray × Unit)) : runF tab ext37 false 33 [] 2000 [] tys37 Try.f37.results [true, true, true] (cutAt b37 2) (E37_2 v7 x0) (L37_2 v7 x0) = some ([Dyn.mk Ty.bool Bool.false], [], [Decidable.decide (v7 < (↑(List.length x0) : Int)) = Bool.true, 0 ≤ v7, v7 < (↑(List.length x0) : Int), P84 (List.getD x0 (Int.toNat v7) (ByteArray.empty, ByteArray.empty, ByteArray.empty, ())), (!g84_0 (List.getD x0 (Int.toNat v7) (ByteArray.empty, ByteArray.empty, ByteArray.empty, ()))) = Bool.true, Bool.true = Bool.true]) := by kernel_rfl
theorem p37_2 (v7 : Int) (x0 : List (ByteArray × ByteArray × ByteArray × Unit)) : runF tab ext37 false 33 [] 2000 [] tys37 Try.f37.results [true, false, true, true] (cutAt b37 2) (E37_2 v7 x0) (L37_2 v7 x0) = some ([Dyn.mk Ty.bool Bool.false], [], [Decidable.decide (v7 < (↑(List.length x0) : Int)) = Bool.true, 0 ≤ v7, v7 < (↑(List.length x0) : Int), P84 (List.getD x0 (Int.toNat v7) (ByteArray.empty, ByteArray.empty, ByteArray.empty, ())), (!g84_0 (List.getD x0 (Int.toNat v7) (ByteArray.empty, ByteArray.empty, ByteArray.empty, ()))) = Bool.false, Decidable.decide (v7 > 0) = Bool.true, InR IntKind.i64 (v7 - 1), 0 ≤ v7 - 1, v7 - 1 < (↑(List.length x0) : Int), True, Decidable.decide (g85_0 (List.getD x0 (Int.toNat (v7 - 1)) (ByteArray.empty, ByteArray.empty, ByteArray.empty, ())) (List.getD x0 (Int.toNat v7) (ByteArray.empty, ByteArray.empty, ByteArray.empty, ())) ≥ 0) = Bool.true]) := by kernel_rfl
theorem p37_3 (v7 : Int) (x0 : List (ByteArray × ByteArray × ByteArray × Unit)) : Am.runN tab ext37 false 33 [] 2000 [] [] [0, 5, 6, 7] [] [true, false, true, false] (cutAt b37 2) (E37_2 v7 x0) (L37_2 v7 x0) = some (cutAt b37 2, E37_2 (v7 + 1) (x0), L37_2 (v7 + 1) (x0), [Decidable.decide (v7 < (↑(List.length x0) : Int)) = Bool.true, 0 ≤ v7, v7 < (↑(List.length x0) : Int), P84 (List.getD x0 (Int.toNat v7) (ByteArray.empty, ByteArray.empty, ByteArray.empty, ())), (!g84_0 (List.getD x0 (Int.toNat v7) (ByteArray.empty, ByteArray.empty, ByteArray.empty, ()))) = Bool.false, Decidable.decide (v7 > 0) = Bool.true, InR IntKind.i64 (v7 - 1), 0 ≤ v7 - 1, v7 - 1 < (↑(List.length x0) : Int), True, Decidable.decide (g85_0 (List.getD x0 (Int.toNat (v7 - 1)) (ByteArray.empty, ByteArray.empty, ByteArray.empty, ())) (List.getD x0 (Int.toNat v7) (ByteArray.empty, ByteArray.empty, ByteArray.empty, ())) ≥ 0) = Bool.false, InR IntKind.i64 (v7 + 1)]) := by kernel_rfl
theorem p37_4 (v7 : Int) (x0 : List (ByteArray × ByteArray × ByteArray × Unit)) : Am.runN tab ext37 false 33 [] 2000 [] [] [0, 5, 6, 7] [] [true, false, false, false] (cutAt b37 2) (E37_2 v7 x0) (L37_2 v7 x0) = some (cutAt b37 2, E37_2 (v7 + 1) (x0), L37_2 (v7 + 1) (x0), [Decidable.decide (v7 < (↑(List.length x0) : Int)) = Bool.true, 0 ≤ v7, v7 < (↑(List.length x0) : Int), P84 (List.getD x0 (Int.toNat v7) (ByteArray.empty, ByteArray.empty, ByteArray.empty, ())), (!g84_0 (List.getD x0 (Int.toNat v7) (ByteArray.empty, ByteArray.empty, ByteArray.empty, ()))) = Bool.false, Decidable.decide (v7 > 0) = Bool.false, Bool.false = Bool.false, InR IntKind.i64 (v7 + 1)]) := by kernel_rfl
theorem p37_5 (v7 : Int) (x0 : List (ByteArray × ByteArray × ByteArray × Unit)) : runF tab ext37 false 33 [] 2000 [] tys37 Try.f37.results [false] (cutAt b37 2) (E37_2 v7 x0) (L37_2 v7 x0) = some ([Dyn.mk Ty.bool (Decidable.decide ((↑(List.length x0) : Int) ≤ 32))], [], [Decidable.decide (v7 < (↑(List.length x0) : Int)) = Bool.false]) := by kernel_rfl
theorem snd37 : ∀ n, (∀ (x0 : List (ByteArray × ByteArray × ByteArray × Unit)) ds, R37 n x0 ds → ∀ w0 O q, AtV Try.prog 37 (PostR ds [] [] q w0 O) 33 w0 O q [] [.code b37] (entE 0 0 sig37 (x0, ())) (entL sig37 (x0, ()))) ∧ (∀ (v7 : Int) (x0 : List (ByteArray × ByteArray × ByteArray × Unit)) ds, R37_2 n v7 x0 ds → ∀ w0 O q, AtV Try.prog 37 (PostR ds [] [] q w0 O) 33 w0 O q [] (cutAt b37 2) (E37_2 v7 x0) (L37_2 v7 x0)) := by
  intro n
  induction n with
  | zero => exact ⟨fun _ _ h => by simp only [R37] at h, fun _ _ _ h => by simp only [R37_2] at h⟩
  | succ n ih =>
  obtain ⟨ih, ih2⟩ := ih
  refine ⟨?_, ?_⟩
  · intro x0 ds h w0 O q
    rw [R37] at h
    exact AtV.runN tabOk ext37Ok mixed (p37_0 x0) trivial (ih2 _ _ _ h w0 O q)

  · intro v7 x0 ds h w0 O q
    rw [R37_2] at h
    by_cases b0 : (Decidable.decide (v7 < (↑(List.length x0) : Int))) = true
    · rw [if_pos b0] at h
      obtain ⟨s0, s1, h⟩ := h
      obtain ⟨s2, h⟩ := h
      by_cases b1 : (!g84_0 (List.getD x0 (Int.toNat v7) (ByteArray.empty, ByteArray.empty, ByteArray.empty, ()))) = true
      · rw [if_pos b1] at h
        subst h
        exact AtV.fin Try.func37 tabOk ext37Ok mixed (p37_1 v7 x0) ⟨b0, s0, s1, s2, b1, rfl, trivial⟩
      · rw [if_neg b1] at h
        replace b1 := Bool.eq_false_iff.2 b1
        by_cases b2 : (Decidable.decide (v7 > 0)) = true
        · rw [if_pos b2] at h
          obtain ⟨s3, h⟩ := h
          obtain ⟨s4, s5, h⟩ := h
          by_cases b3 : (Decidable.decide (g85_0 (List.getD x0 (Int.toNat (v7 - 1)) (ByteArray.empty, ByteArray.empty, ByteArray.empty, ())) (List.getD x0 (Int.toNat v7) (ByteArray.empty, ByteArray.empty, ByteArray.empty, ())) ≥ 0)) = true
          · rw [if_pos b3] at h
            subst h
            exact AtV.fin Try.func37 tabOk ext37Ok mixed (p37_2 v7 x0) ⟨b0, s0, s1, s2, b1, b2, s3, s4, s5, trivial, b3, trivial⟩
          · rw [if_neg b3] at h
            replace b3 := Bool.eq_false_iff.2 b3
            obtain ⟨s6, h⟩ := h
            exact AtV.runN tabOk ext37Ok mixed (p37_3 v7 x0) ⟨b0, s0, s1, s2, b1, b2, s3, s4, s5, trivial, b3, s6, trivial⟩ (ih2 _ _ _ h w0 O q)
        · rw [if_neg b2] at h
          replace b2 := Bool.eq_false_iff.2 b2
          obtain ⟨s3, h⟩ := h
          exact AtV.runN tabOk ext37Ok mixed (p37_4 v7 x0) ⟨b0, s0, s1, s2, b1, b2, rfl, s3, trivial⟩ (ih2 _ _ _ h w0 O q)
    · rw [if_neg b0] at h
      replace b0 := Bool.eq_false_iff.2 b0
      subst h
      exact AtV.fin Try.func37 tabOk ext37Ok mixed (p37_5 v7 x0) ⟨b0, trivial⟩



/-- A block at its place. -/
def ok37 (x0 : List (ByteArray × ByteArray × ByteArray × Unit)) (i : Nat) (x : ByteArray × ByteArray × ByteArray × Unit) : Bool :=
  g84_0 x && (i == 0 || !decide (g85_0 (x0.getD (i - 1) (ByteArray.empty, ByteArray.empty, ByteArray.empty, ())) x ≥ 0))
def g37_0 (x0 : List (ByteArray × ByteArray × ByteArray × Unit)) : Bool := allI (ok37 x0) 0 x0 && decide (x0.length ≤ 32)
def P37 (x0 : List (ByteArray × ByteArray × ByteArray × Unit)) : Prop := True

theorem step37 (n i : Nat) (x0 : List (ByteArray × ByteArray × ByteArray × Unit)) (hm : x0.length ≤ maxLen) (hi : i < x0.length) (ds : List Dyn) :
    (if ok37 x0 i (x0.getD i (ByteArray.empty, ByteArray.empty, ByteArray.empty, ())) = true then R37_2 n ((i : Int) + 1) x0 ds else ds = [⟨.bool, false⟩]) → R37_2 (n + 1) (i : Int) x0 ds := by
  intro h
  have hu := inR_up hm hi
  rw [R37_2, if_pos (by simp; omega)]
  refine ⟨by omega, by omega, ?_⟩
  simp only [Int.toNat_natCast]
  unfold ok37 at h
  refine ⟨pre84 _, ?_⟩
  by_cases h1 : g84_0 (x0.getD i (ByteArray.empty, ByteArray.empty, ByteArray.empty, ())) = true
  case neg =>
    have h1 := Bool.eq_false_iff.2 h1
    rw [h1] at h
    rw [if_pos (by rw [h1]; rfl)]
    simpa using h
  case pos =>
    rw [h1] at h
    rw [if_neg (by rw [h1]; simp)]
    by_cases h0 : (i : Int) > 0
    · rw [if_pos (by simpa using h0)]
      have hi0 : (i == 0) = false := by simp; omega
      have e : ((i : Int) - 1).toNat = i - 1 := by omega
      refine ⟨by rw [i64_iff]; have : maxLen ≤ 9223372036854775807 := by decide
                 omega, by omega, by omega, ?_⟩
      rw [e]
      by_cases h2 : g85_0 (x0.getD (i - 1) (ByteArray.empty, ByteArray.empty, ByteArray.empty, ())) (x0.getD i (ByteArray.empty, ByteArray.empty, ByteArray.empty, ())) ≥ 0
      · rw [if_pos (by simpa using h2)]
        rw [hi0, decide_eq_true h2] at h
        simpa using h
      · rw [if_neg (by simpa using h2)]
        rw [hi0, decide_eq_false h2] at h
        exact ⟨hu, by simpa using h⟩
    · rw [if_neg (by simpa using h0)]
      have hi0 : (i == 0) = true := by simp; omega
      rw [hi0] at h
      exact ⟨hu, by simpa using h⟩

theorem top37 (x0 : List (ByteArray × ByteArray × ByteArray × Unit)) (hw : x0.length ≤ maxLen) : R37 (x0.length + 1 + 1) x0 [⟨.bool, g37_0 x0⟩] := by
  rw [R37]
  have key := loop_testI x0 (ByteArray.empty, ByteArray.empty, ByteArray.empty, ()) (ok37 x0) [(⟨.bool, false⟩ : Dyn)] [⟨.bool, decide (x0.length ≤ 32)⟩] (fun n i ds => R37_2 n i x0 ds) (fun n => ?_) (fun n i hi hok ds hr => ?_) (fun n i hi hok => ?_)
  · unfold g37_0
    cases h : allI (ok37 x0) 0 x0 with
    | true => rw [if_pos h] at key; simpa using key
    | false => rw [if_neg (by rw [h]; simp)] at key; simpa using key
  · rw [R37_2, if_neg (by simp)]
    have hc : decide ((x0.length : Int) ≤ 32) = decide (x0.length ≤ 32) := by
      congr 1; exact propext ⟨fun h => by omega, fun h => by omega⟩
    rw [hc]
  · exact step37 n i x0 hw hi ds (by rw [if_pos hok]; exact hr)
  · exact step37 n i x0 hw hi _ (by rw [if_neg (by rw [hok]; simp)])

def S37 : Am.Spec := { sig := sig37, pre := fun ⟨x0, _⟩ => P37 x0, res := fun ⟨x0, _⟩ => [⟨Ty.bool, g37_0 x0⟩] }
theorem con37 : Contract Try.prog 37 S37 := contract_of Try.func37 hb37 (Nat.le_of_ble_eq_true (by kernel_rfl)) (fun ⟨x0, _⟩ h hwf w0 O q =>
  (snd37 _).1 x0 _ (top37 x0 hwf.1.1) w0 O q)

end Go.Proofs.Ytjkeinpcphkfbaa

/- Function 46 (impl.BlocksOfKind): its runs between cut points. Written by a program of this repo (gen). -/
set_option linter.unusedVariables false
set_option linter.unusedSimpArgs false
set_option maxRecDepth 100000
namespace Go.Proofs.Ytjkeinpcphkfbaa
open Go Go.Am Go.Proofs
def ext46 : Ext := [(37, S37)]
theorem call46_37 : Callable Try.prog 37 := ⟨Try.f37, Try.func37, by kernel_rfl, by kernel_rfl⟩
theorem ext46Ok : ExtOk Try.prog ext46 := ⟨⟨call46_37, con37⟩, trivial⟩
/-! Function 46. -/
noncomputable def b46 : Code := bodyOf Try.f46
theorem hb46 : Try.f46.body = some b46 := by kernel_rfl
def sig46 : List AT := [AT.v (Ty.sl (Ty.cons Ty.str (Ty.cons Ty.str (Ty.cons Ty.str Ty.unit)))), AT.v (Ty.str)]
def tys46 : List Ty := [Ty.sl Ty.str, Ty.int IntKind.i64]
def E46_5 (v14 : Int) (h0 : List ByteArray) (x1 : ByteArray) (x0 : List (ByteArray × ByteArray × ByteArray × Unit)) : Env := [(1, PV.a (Atom.val (Value.string x1))), (6, PV.a (Atom.osl 0 Option.none)), (12, PV.a (Atom.sl (Ty.cons Ty.str (Ty.cons Ty.str (Ty.cons Ty.str Ty.unit))) x0)), (13, PV.a (Atom.val (Value.int IntKind.i64 (↑(List.length x0) : Int)))), (14, PV.a (Atom.val (Value.int IntKind.i64 v14)))]
def L46_5 (v14 : Int) (h0 : List ByteArray) (x1 : ByteArray) (x0 : List (ByteArray × ByteArray × ByteArray × Unit)) : Heap := [Option.some (Arr.mk Ty.str h0 Bool.false)]
mutual
def R46 : Nat → List (ByteArray × ByteArray × ByteArray × Unit) → ByteArray → List Dyn → Prop
  | 0, _, _, _ => False
  | n + 1, x0, x1, ds => (if (!g37_0 x0) = true then (ds = [Dyn.mk (Ty.sl Ty.str) [], Dyn.mk (Ty.int IntKind.i64) 1]) else (R46_5 n (0) ([]) (x1) (x0) ds))
def R46_5 : Nat → Int → List ByteArray → ByteArray → List (ByteArray × ByteArray × ByteArray × Unit) → List Dyn → Prop
  | 0, _, _, _, _, _ => False
  | n + 1, v14, h0, x1, x0, ds => (if (Decidable.decide (v14 < (↑(List.length x0) : Int))) = true then ((0 ≤ v14) ∧ (v14 < (↑(List.length x0) : Int)) ∧ (if (ByteArray.toList (Prod.fst (List.getD x0 (Int.toNat v14) (ByteArray.empty, ByteArray.empty, ByteArray.empty, ()))) == ByteArray.toList x1) = true then (((List.length h0 + 1) * 16 ≤ 140737488355328) ∧ ((InR IntKind.i64 (v14 + 1)) ∧ (R46_5 n (v14 + 1) (h0 ++ [Prod.fst (Prod.snd (List.getD x0 (Int.toNat v14) (ByteArray.empty, ByteArray.empty, ByteArray.empty, ())))]) (x1) (x0) ds))) else ((InR IntKind.i64 (v14 + 1)) ∧ (R46_5 n (v14 + 1) (h0) (x1) (x0) ds)))) else (ds = [Dyn.mk (Ty.sl Ty.str) h0, Dyn.mk (Ty.int IntKind.i64) 0]))
end
theorem p46_0 (x0 : List (ByteArray × ByteArray × ByteArray × Unit)) (x1 : ByteArray) : runF tab ext46 false 29 [] 2000 [] tys46 Try.f46.results [true] [.code b46] (entE 0 0 sig46 (x0, x1, ())) (entL sig46 (x0, x1, ())) = some ([Dyn.mk (Ty.sl Ty.str) [], Dyn.mk (Ty.int IntKind.i64) 1], [], [True, (!g37_0 x0) = Bool.true]) := by kernel_rfl
theorem p46_1 (x0 : List (ByteArray × ByteArray × ByteArray × Unit)) (x1 : ByteArray) : Am.runN tab ext46 false 29 [] 2000 [] [(6, Ty.str)] [1, 6, 12, 13, 14] [true] [false] [.code b46] (entE 0 0 sig46 (x0, x1, ())) (entL sig46 (x0, x1, ())) = some (cutAt b46 5, E46_5 (0) ([]) (x1) (x0), L46_5 (0) ([]) (x1) (x0), [True, (!g37_0 x0) = Bool.false]) := by kernel_rfl
theorem p46_2 (v14 : Int) (h0 : List ByteArray) (x1 : ByteArray) (x0 : List (ByteArray × ByteArray × ByteArray × Unit)) : Am.runN tab ext46 false 29 [] 2000 [] [(6, Ty.str)] [1, 6, 12, 13, 14] [true] [true, true] (cutAt b46 5) (E46_5 v14 h0 x1 x0) (L46_5 v14 h0 x1 x0) = some (cutAt b46 5, E46_5 (v14 + 1) (h0 ++ [Prod.fst (Prod.snd (List.getD x0 (Int.toNat v14) (ByteArray.empty, ByteArray.empty, ByteArray.empty, ())))]) (x1) (x0), L46_5 (v14 + 1) (h0 ++ [Prod.fst (Prod.snd (List.getD x0 (Int.toNat v14) (ByteArray.empty, ByteArray.empty, ByteArray.empty, ())))]) (x1) (x0), [Decidable.decide (v14 < (↑(List.length x0) : Int)) = Bool.true, 0 ≤ v14, v14 < (↑(List.length x0) : Int), (ByteArray.toList (Prod.fst (List.getD x0 (Int.toNat v14) (ByteArray.empty, ByteArray.empty, ByteArray.empty, ()))) == ByteArray.toList x1) = Bool.true, (List.length h0 + 1) * 16 ≤ 140737488355328, InR IntKind.i64 (v14 + 1)]) := by kernel_rfl
theorem p46_3 (v14 : Int) (h0 : List ByteArray) (x1 : ByteArray) (x0 : List (ByteArray × ByteArray × ByteArray × Unit)) : Am.runN tab ext46 false 29 [] 2000 [] [(6, Ty.str)] [1, 6, 12, 13, 14] [true] [true, false] (cutAt b46 5) (E46_5 v14 h0 x1 x0) (L46_5 v14 h0 x1 x0) = some (cutAt b46 5, E46_5 (v14 + 1) (h0) (x1) (x0), L46_5 (v14 + 1) (h0) (x1) (x0), [Decidable.decide (v14 < (↑(List.length x0) : Int)) = Bool.true, 0 ≤ v14, v14 < (↑(List.length x0) : Int), (ByteArray.toList (Prod.fst (List.getD x0 (Int.toNat v14) (ByteArray.empty, ByteArray.empty, ByteArray.empty, ()))) == ByteArray.toList x1) = Bool.false, InR IntKind.i64 (v14 + 1)]) := by kernel_rfl
theorem p46_4 (v14 : Int) (h0 : List ByteArray) (x1 : ByteArray) (x0 : List (ByteArray × ByteArray × ByteArray × Unit)) : runF tab ext46 false 29 [] 2000 [] tys46 Try.f46.results [false] (cutAt b46 5) (E46_5 v14 h0 x1 x0) (L46_5 v14 h0 x1 x0) = some ([Dyn.mk (Ty.sl Ty.str) h0, Dyn.mk (Ty.int IntKind.i64) 0], [], [Decidable.decide (v14 < (↑(List.length x0) : Int)) = Bool.false]) := by kernel_rfl
theorem snd46 : ∀ n, (∀ (x0 : List (ByteArray × ByteArray × ByteArray × Unit)) (x1 : ByteArray) ds, R46 n x0 x1 ds → ∀ w0 O q, AtV Try.prog 46 (PostR ds [] [] q w0 O) 29 w0 O q [] [.code b46] (entE 0 0 sig46 (x0, x1, ())) (entL sig46 (x0, x1, ()))) ∧ (∀ (v14 : Int) (h0 : List ByteArray) (x1 : ByteArray) (x0 : List (ByteArray × ByteArray × ByteArray × Unit)) ds, R46_5 n v14 h0 x1 x0 ds → ∀ w0 O q, AtV Try.prog 46 (PostR ds [] [] q w0 O) 29 w0 O q [] (cutAt b46 5) (E46_5 v14 h0 x1 x0) (L46_5 v14 h0 x1 x0)) := by
  intro n
  induction n with
  | zero => exact ⟨fun _ _ _ h => by simp only [R46] at h, fun _ _ _ _ _ h => by simp only [R46_5] at h⟩
  | succ n ih =>
  obtain ⟨ih, ih5⟩ := ih
  refine ⟨?_, ?_⟩
  · intro x0 x1 ds h w0 O q
    rw [R46] at h
    by_cases b0 : (!g37_0 x0) = true
    · rw [if_pos b0] at h
      subst h
      exact AtV.fin Try.func46 tabOk ext46Ok mixed (p46_0 x0 x1) ⟨trivial, b0, trivial⟩
    · rw [if_neg b0] at h
      replace b0 := Bool.eq_false_iff.2 b0
      exact AtV.runN tabOk ext46Ok mixed (p46_1 x0 x1) ⟨trivial, b0, trivial⟩ (ih5 _ _ _ _ _ h w0 O q)

  · intro v14 h0 x1 x0 ds h w0 O q
    rw [R46_5] at h
    by_cases b0 : (Decidable.decide (v14 < (↑(List.length x0) : Int))) = true
    · rw [if_pos b0] at h
      obtain ⟨s0, s1, h⟩ := h
      by_cases b1 : (ByteArray.toList (Prod.fst (List.getD x0 (Int.toNat v14) (ByteArray.empty, ByteArray.empty, ByteArray.empty, ()))) == ByteArray.toList x1) = true
      · rw [if_pos b1] at h
        obtain ⟨s2, h⟩ := h
        obtain ⟨s3, h⟩ := h
        exact AtV.runN tabOk ext46Ok mixed (p46_2 v14 h0 x1 x0) ⟨b0, s0, s1, b1, s2, s3, trivial⟩ (ih5 _ _ _ _ _ h w0 O q)
      · rw [if_neg b1] at h
        replace b1 := Bool.eq_false_iff.2 b1
        obtain ⟨s2, h⟩ := h
        exact AtV.runN tabOk ext46Ok mixed (p46_3 v14 h0 x1 x0) ⟨b0, s0, s1, b1, s2, trivial⟩ (ih5 _ _ _ _ _ h w0 O q)
    · rw [if_neg b0] at h
      replace b0 := Bool.eq_false_iff.2 b0
      subst h
      exact AtV.fin Try.func46 tabOk ext46Ok mixed (p46_4 v14 h0 x1 x0) ⟨b0, trivial⟩



def names46 (x0 : List (ByteArray × ByteArray × ByteArray × Unit)) (x1 : ByteArray) : List ByteArray := (x0.filter fun b => ByteArray.toList b.1 == ByteArray.toList x1).map fun b => b.2.1
def g46_0 (x0 : List (ByteArray × ByteArray × ByteArray × Unit)) (x1 : ByteArray) : List ByteArray := if g37_0 x0 = true then names46 x0 x1 else []
def g46_1 (x0 : List (ByteArray × ByteArray × ByteArray × Unit)) (x1 : ByteArray) : Int := if g37_0 x0 = true then 0 else 1
def P46 (x0 : List (ByteArray × ByteArray × ByteArray × Unit)) (x1 : ByteArray) : Prop := True

theorem top46 (x0 : List (ByteArray × ByteArray × ByteArray × Unit)) (x1 : ByteArray) : R46 (x0.length + 1 + 1) x0 x1 [⟨.sl .str, g46_0 x0 x1⟩, ⟨.int .i64, g46_1 x0 x1⟩] := by
  rw [R46]
  unfold g46_0 g46_1
  cases hok : g37_0 x0 with
  | false => rw [if_pos (by simp)]; rfl
  | true =>
    rw [if_neg (by simp)]
    have hlen : x0.length ≤ 32 := by
      unfold g37_0 at hok
      simp only [Bool.and_eq_true, decide_eq_true_eq] at hok
      exact hok.2
    have hm : x0.length ≤ maxLen := by unfold maxLen; omega
    have key := loop_fold (b := []) x0 (ByteArray.empty, ByteArray.empty, ByteArray.empty, ()) (fun (h : List ByteArray) b => if (ByteArray.toList b.1 == ByteArray.toList x1) = true then h ++ [b.2.1] else h) (fun h => [(⟨.sl .str, h⟩ : Dyn), ⟨.int .i64, (0 : Int)⟩]) (fun i h => h.length ≤ i) (fun n i h ds => R46_5 n i h x1 x0 ds) (by simp) (fun n h _ => ?_) (fun n i h hi hl => ?_)
    · rw [foldl_filter] at key
      simpa [names46] using key
    · show R46_5 (n + 1) x0.length h x1 x0 _
      rw [R46_5, if_neg (by simp)]
    · by_cases he : (ByteArray.toList (x0.getD i (ByteArray.empty, ByteArray.empty, ByteArray.empty, ())).1 == ByteArray.toList x1) = true
      · rw [if_pos he]
        refine ⟨len_up hl, fun ds hr => ?_⟩
        rw [R46_5, if_pos (by simp; omega)]
        simp only [Int.toNat_natCast]
        refine ⟨by omega, by omega, ?_⟩
        rw [if_pos he]
        exact ⟨by omega, inR_up hm hi, hr⟩
      · rw [if_neg he]
        refine ⟨by omega, fun ds hr => ?_⟩
        rw [R46_5, if_pos (by simp; omega)]
        simp only [Int.toNat_natCast]
        refine ⟨by omega, by omega, ?_⟩
        rw [if_neg he]
        exact ⟨inR_up hm hi, hr⟩

def S46 : Am.Spec := { sig := sig46, pre := fun ⟨x0, x1, _⟩ => P46 x0 x1, res := fun ⟨x0, x1, _⟩ => [⟨.sl .str, g46_0 x0 x1⟩, ⟨.int .i64, g46_1 x0 x1⟩] }
theorem con46 : Contract Try.prog 46 S46 := contract_of Try.func46 hb46 (Nat.le_of_ble_eq_true (by kernel_rfl)) (fun ⟨x0, x1, _⟩ h hwf w0 O q =>
  (snd46 _).1 x0 x1 _ (top46 x0 x1) w0 O q)

end Go.Proofs.Ytjkeinpcphkfbaa

/- Function 28 (laws.eqStringS): its runs between cut points. Written by a program of this repo (gen). -/
set_option linter.unusedVariables false
set_option linter.unusedSimpArgs false
set_option maxRecDepth 100000
namespace Go.Proofs.Ytjkeinpcphkfbaa
open Go Go.Am Go.Proofs
def ext28 : Ext := []
theorem ext28Ok : ExtOk Try.prog ext28 := trivial
/-! Function 28. -/
noncomputable def b28 : Code := bodyOf Try.f28
theorem hb28 : Try.f28.body = some b28 := by kernel_rfl
def sig28 : List AT := [AT.v (Ty.sl Ty.str), AT.v (Ty.sl Ty.str)]
def tys28 : List Ty := [Ty.bool]
def E28_4 (v5 : Int) (x0 : List ByteArray) (x1 : List ByteArray) : Env := [(0, PV.a (Atom.sl Ty.str x0)), (1, PV.a (Atom.sl Ty.str x1)), (5, PV.a (Atom.val (Value.int IntKind.i64 v5)))]
def L28_4 (v5 : Int) (x0 : List ByteArray) (x1 : List ByteArray) : Heap := []
mutual
def R28 : Nat → List ByteArray → List ByteArray → List Dyn → Prop
  | 0, _, _, _ => False
  | n + 1, x0, x1, ds => (if ((↑(List.length x0) : Int) != (↑(List.length x1) : Int)) = true then (ds = [Dyn.mk Ty.bool Bool.false]) else (R28_4 n (0) (x0) (x1) ds))
def R28_4 : Nat → Int → List ByteArray → List ByteArray → List Dyn → Prop
  | 0, _, _, _, _ => False
  | n + 1, v5, x0, x1, ds => (if (Decidable.decide (v5 < (↑(List.length x0) : Int))) = true then ((0 ≤ v5) ∧ (v5 < (↑(List.length x0) : Int)) ∧ ((0 ≤ v5) ∧ (v5 < (↑(List.length x1) : Int)) ∧ (if (!ByteArray.toList (List.getD x0 (Int.toNat v5) ByteArray.empty) == ByteArray.toList (List.getD x1 (Int.toNat v5) ByteArray.empty)) = true then (ds = [Dyn.mk Ty.bool Bool.false]) else ((InR IntKind.i64 (v5 + 1)) ∧ (R28_4 n (v5 + 1) (x0) (x1) ds))))) else (ds = [Dyn.mk Ty.bool Bool.true]))
end
theorem p28_0 (x0 : List ByteArray) (x1 : List ByteArray) : runF tab ext28 false 26 [] 2000 [] tys28 Try.f28.results [true] [.code b28] (entE 0 0 sig28 (x0, x1, ())) (entL sig28 (x0, x1, ())) = some ([Dyn.mk Ty.bool Bool.false], [], [((↑(List.length x0) : Int) != (↑(List.length x1) : Int)) = Bool.true]) := by kernel_rfl
theorem p28_1 (x0 : List ByteArray) (x1 : List ByteArray) : Am.runN tab ext28 false 26 [] 2000 [] [] [0, 1, 5] [] [false] [.code b28] (entE 0 0 sig28 (x0, x1, ())) (entL sig28 (x0, x1, ())) = some (cutAt b28 4, E28_4 (0) (x0) (x1), L28_4 (0) (x0) (x1), [((↑(List.length x0) : Int) != (↑(List.length x1) : Int)) = Bool.false]) := by kernel_rfl
theorem p28_2 (v5 : Int) (x0 : List ByteArray) (x1 : List ByteArray) : runF tab ext28 false 26 [] 2000 [] tys28 Try.f28.results [true, true] (cutAt b28 4) (E28_4 v5 x0 x1) (L28_4 v5 x0 x1) = some ([Dyn.mk Ty.bool Bool.false], [], [Decidable.decide (v5 < (↑(List.length x0) : Int)) = Bool.true, 0 ≤ v5, v5 < (↑(List.length x0) : Int), 0 ≤ v5, v5 < (↑(List.length x1) : Int), (!ByteArray.toList (List.getD x0 (Int.toNat v5) ByteArray.empty) == ByteArray.toList (List.getD x1 (Int.toNat v5) ByteArray.empty)) = Bool.true]) := by kernel_rfl
theorem p28_3 (v5 : Int) (x0 : List ByteArray) (x1 : List ByteArray) : Am.runN tab ext28 false 26 [] 2000 [] [] [0, 1, 5] [] [true, false] (cutAt b28 4) (E28_4 v5 x0 x1) (L28_4 v5 x0 x1) = some (cutAt b28 4, E28_4 (v5 + 1) (x0) (x1), L28_4 (v5 + 1) (x0) (x1), [Decidable.decide (v5 < (↑(List.length x0) : Int)) = Bool.true, 0 ≤ v5, v5 < (↑(List.length x0) : Int), 0 ≤ v5, v5 < (↑(List.length x1) : Int), (!ByteArray.toList (List.getD x0 (Int.toNat v5) ByteArray.empty) == ByteArray.toList (List.getD x1 (Int.toNat v5) ByteArray.empty)) = Bool.false, InR IntKind.i64 (v5 + 1)]) := by kernel_rfl
theorem p28_4 (v5 : Int) (x0 : List ByteArray) (x1 : List ByteArray) : runF tab ext28 false 26 [] 2000 [] tys28 Try.f28.results [false] (cutAt b28 4) (E28_4 v5 x0 x1) (L28_4 v5 x0 x1) = some ([Dyn.mk Ty.bool Bool.true], [], [Decidable.decide (v5 < (↑(List.length x0) : Int)) = Bool.false]) := by kernel_rfl
theorem snd28 : ∀ n, (∀ (x0 : List ByteArray) (x1 : List ByteArray) ds, R28 n x0 x1 ds → ∀ w0 O q, AtV Try.prog 28 (PostR ds [] [] q w0 O) 26 w0 O q [] [.code b28] (entE 0 0 sig28 (x0, x1, ())) (entL sig28 (x0, x1, ()))) ∧ (∀ (v5 : Int) (x0 : List ByteArray) (x1 : List ByteArray) ds, R28_4 n v5 x0 x1 ds → ∀ w0 O q, AtV Try.prog 28 (PostR ds [] [] q w0 O) 26 w0 O q [] (cutAt b28 4) (E28_4 v5 x0 x1) (L28_4 v5 x0 x1)) := by
  intro n
  induction n with
  | zero => exact ⟨fun _ _ _ h => by simp only [R28] at h, fun _ _ _ _ h => by simp only [R28_4] at h⟩
  | succ n ih =>
  obtain ⟨ih, ih4⟩ := ih
  refine ⟨?_, ?_⟩
  · intro x0 x1 ds h w0 O q
    rw [R28] at h
    by_cases b0 : ((↑(List.length x0) : Int) != (↑(List.length x1) : Int)) = true
    · rw [if_pos b0] at h
      subst h
      exact AtV.fin Try.func28 tabOk ext28Ok mixed (p28_0 x0 x1) ⟨b0, trivial⟩
    · rw [if_neg b0] at h
      replace b0 := Bool.eq_false_iff.2 b0
      exact AtV.runN tabOk ext28Ok mixed (p28_1 x0 x1) ⟨b0, trivial⟩ (ih4 _ _ _ _ h w0 O q)

  · intro v5 x0 x1 ds h w0 O q
    rw [R28_4] at h
    by_cases b0 : (Decidable.decide (v5 < (↑(List.length x0) : Int))) = true
    · rw [if_pos b0] at h
      obtain ⟨s0, s1, h⟩ := h
      obtain ⟨s2, s3, h⟩ := h
      by_cases b1 : (!ByteArray.toList (List.getD x0 (Int.toNat v5) ByteArray.empty) == ByteArray.toList (List.getD x1 (Int.toNat v5) ByteArray.empty)) = true
      · rw [if_pos b1] at h
        subst h
        exact AtV.fin Try.func28 tabOk ext28Ok mixed (p28_2 v5 x0 x1) ⟨b0, s0, s1, s2, s3, b1, trivial⟩
      · rw [if_neg b1] at h
        replace b1 := Bool.eq_false_iff.2 b1
        obtain ⟨s4, h⟩ := h
        exact AtV.runN tabOk ext28Ok mixed (p28_3 v5 x0 x1) ⟨b0, s0, s1, s2, s3, b1, s4, trivial⟩ (ih4 _ _ _ _ h w0 O q)
    · rw [if_neg b0] at h
      replace b0 := Bool.eq_false_iff.2 b0
      subst h
      exact AtV.fin Try.func28 tabOk ext28Ok mixed (p28_4 v5 x0 x1) ⟨b0, trivial⟩



theorem eq28 (x0 x1 : List (ByteArray)) (hl : x0.length = x1.length) (hm : x0.length ≤ maxLen) : ∀ k i : Nat, i + k = x0.length → R28_4 (k + 1) (i : Int) x0 x1 [⟨.bool, decide (x0.drop i = x1.drop i)⟩] := by
  intro k
  induction k with
  | zero =>
    intro i hi
    have h1 : ¬ (i : Int) < (x0.length : Int) := by omega
    rw [R28_4, if_neg (by simpa using h1), drop_end x0 i (by omega), drop_end x1 i (by omega)]
    simp
  | succ k ih =>
    intro i hi
    have h1 : (i : Int) < (x0.length : Int) := by omega
    rw [R28_4, if_pos (by simpa using h1)]
    refine ⟨by omega, h1, by omega, by omega, ?_⟩
    simp only [Int.toNat_natCast]
    rw [drop_get x0 i ByteArray.empty (by omega), drop_get x1 i ByteArray.empty (by omega)]
    by_cases he : x0.getD i ByteArray.empty = x1.getD i ByteArray.empty
    · have hd := (bytes_eq _ _).2 he
      rw [if_neg (by rw [hd]; simp)]
      refine ⟨inR_up hm (by omega), ?_⟩
      have := ih (i + 1) (by omega)
      simp only [he, List.cons.injEq, true_and]
      exact this
    · have hd : (ByteArray.toList (x0.getD i ByteArray.empty) == ByteArray.toList (x1.getD i ByteArray.empty)) = false :=
        (bytes_ne _ _).2 he
      rw [if_pos (by rw [hd]; rfl)]
      simp only [he, List.cons.injEq, false_and, decide_false]

def g28_0 (x0 x1 : List (ByteArray)) : Bool := decide (x0 = x1)
def P28 (x0 x1 : List (ByteArray)) : Prop := True
def S28 : Am.Spec := { sig := sig28, pre := fun ⟨x0, x1, _⟩ => P28 x0 x1, res := fun ⟨x0, x1, _⟩ => [⟨Ty.bool, g28_0 x0 x1⟩] }
theorem con28 : Contract Try.prog 28 S28 := contract_of Try.func28 hb28 (Nat.le_of_ble_eq_true (by kernel_rfl)) (fun ⟨x0, x1, _⟩ h hwf w0 O q => by
  refine (snd28 (x0.length + 2)).1 x0 x1 _ ?_ w0 O q
  show R28 (x0.length + 1 + 1) x0 x1 [⟨Ty.bool, decide (x0 = x1)⟩]
  rw [R28]
  by_cases hl : x0.length = x1.length
  · rw [if_neg (by simp [hl])]
    have := eq28 x0 x1 hl hwf.1.1 x0.length 0 (by omega)
    simpa using this
  · rw [if_pos (by simp; omega)]
    have : x0 ≠ x1 := fun h => hl (by rw [h])
    simp [this])

end Go.Proofs.Ytjkeinpcphkfbaa

/- Function 86 (laws.eqBlock): its runs between cut points. Written by a program of this repo (gen). -/
set_option linter.unusedVariables false
set_option linter.unusedSimpArgs false
set_option maxRecDepth 100000
namespace Go.Proofs.Ytjkeinpcphkfbaa
open Go Go.Am Go.Proofs
def ext86 : Ext := []
theorem ext86Ok : ExtOk Try.prog ext86 := trivial
/-! Function 86. -/
noncomputable def b86 : Code := bodyOf Try.f86
theorem hb86 : Try.f86.body = some b86 := by kernel_rfl
def sig86 : List AT := [AT.v (Ty.cons Ty.str (Ty.cons Ty.str (Ty.cons Ty.str Ty.unit))), AT.v (Ty.cons Ty.str (Ty.cons Ty.str (Ty.cons Ty.str Ty.unit)))]
def tys86 : List Ty := [Ty.bool]
def P86 (x0 : ByteArray × ByteArray × ByteArray × Unit) (x1 : ByteArray × ByteArray × ByteArray × Unit) : Prop := True
def g86_0 (x0 : ByteArray × ByteArray × ByteArray × Unit) (x1 : ByteArray × ByteArray × ByteArray × Unit) : Bool := (if (!ByteArray.toList (Prod.fst x0) == ByteArray.toList (Prod.fst x1)) = true then Bool.false else (if (!ByteArray.toList (Prod.fst (Prod.snd x0)) == ByteArray.toList (Prod.fst (Prod.snd x1))) = true then Bool.false else (if (!ByteArray.toList (Prod.fst (Prod.snd (Prod.snd x0))) == ByteArray.toList (Prod.fst (Prod.snd (Prod.snd x1)))) = true then Bool.false else Bool.true)))
theorem p86_0 (x0 : ByteArray × ByteArray × ByteArray × Unit) (x1 : ByteArray × ByteArray × ByteArray × Unit) : runF tab ext86 false 20 [] 2000 [] tys86 Try.f86.results [true] [.code b86] (entE 0 0 sig86 (x0, x1, ())) (entL sig86 (x0, x1, ())) = some ([Dyn.mk Ty.bool Bool.false], [], [(!ByteArray.toList (Prod.fst x0) == ByteArray.toList (Prod.fst x1)) = Bool.true]) := by kernel_rfl
theorem p86_1 (x0 : ByteArray × ByteArray × ByteArray × Unit) (x1 : ByteArray × ByteArray × ByteArray × Unit) : runF tab ext86 false 20 [] 2000 [] tys86 Try.f86.results [false, true] [.code b86] (entE 0 0 sig86 (x0, x1, ())) (entL sig86 (x0, x1, ())) = some ([Dyn.mk Ty.bool Bool.false], [], [(!ByteArray.toList (Prod.fst x0) == ByteArray.toList (Prod.fst x1)) = Bool.false, (!ByteArray.toList (Prod.fst (Prod.snd x0)) == ByteArray.toList (Prod.fst (Prod.snd x1))) = Bool.true]) := by kernel_rfl
theorem p86_2 (x0 : ByteArray × ByteArray × ByteArray × Unit) (x1 : ByteArray × ByteArray × ByteArray × Unit) : runF tab ext86 false 20 [] 2000 [] tys86 Try.f86.results [false, false, true] [.code b86] (entE 0 0 sig86 (x0, x1, ())) (entL sig86 (x0, x1, ())) = some ([Dyn.mk Ty.bool Bool.false], [], [(!ByteArray.toList (Prod.fst x0) == ByteArray.toList (Prod.fst x1)) = Bool.false, (!ByteArray.toList (Prod.fst (Prod.snd x0)) == ByteArray.toList (Prod.fst (Prod.snd x1))) = Bool.false, (!ByteArray.toList (Prod.fst (Prod.snd (Prod.snd x0))) == ByteArray.toList (Prod.fst (Prod.snd (Prod.snd x1)))) = Bool.true]) := by kernel_rfl
theorem p86_3 (x0 : ByteArray × ByteArray × ByteArray × Unit) (x1 : ByteArray × ByteArray × ByteArray × Unit) : runF tab ext86 false 20 [] 2000 [] tys86 Try.f86.results [false, false, false] [.code b86] (entE 0 0 sig86 (x0, x1, ())) (entL sig86 (x0, x1, ())) = some ([Dyn.mk Ty.bool Bool.true], [], [(!ByteArray.toList (Prod.fst x0) == ByteArray.toList (Prod.fst x1)) = Bool.false, (!ByteArray.toList (Prod.fst (Prod.snd x0)) == ByteArray.toList (Prod.fst (Prod.snd x1))) = Bool.false, (!ByteArray.toList (Prod.fst (Prod.snd (Prod.snd x0))) == ByteArray.toList (Prod.fst (Prod.snd (Prod.snd x1)))) = Bool.false]) := by kernel_rfl
theorem at86 (x0 : ByteArray × ByteArray × ByteArray × Unit) (x1 : ByteArray × ByteArray × ByteArray × Unit) (h : P86 x0 x1) (w0 : World) (O : List Nat) (q : Nat → Value) : AtV Try.prog 86 (PostR [⟨Ty.bool, g86_0 x0 x1⟩] [] [] q w0 O) 20 w0 O q [] [.code b86] (entE 0 0 sig86 (x0, x1, ())) (entL sig86 (x0, x1, ())) := by
  unfold P86 at h
  unfold g86_0
  by_cases b0 : (!ByteArray.toList (Prod.fst x0) == ByteArray.toList (Prod.fst x1)) = true
  · try simp only [if_pos b0] at h ⊢
    exact AtV.fin Try.func86 tabOk ext86Ok mixed (p86_0 x0 x1) ⟨b0, trivial⟩
  · try simp only [if_neg b0] at h ⊢
    replace b0 := Bool.eq_false_iff.2 b0
    by_cases b1 : (!ByteArray.toList (Prod.fst (Prod.snd x0)) == ByteArray.toList (Prod.fst (Prod.snd x1))) = true
    · try simp only [if_pos b1] at h ⊢
      exact AtV.fin Try.func86 tabOk ext86Ok mixed (p86_1 x0 x1) ⟨b0, b1, trivial⟩
    · try simp only [if_neg b1] at h ⊢
      replace b1 := Bool.eq_false_iff.2 b1
      by_cases b2 : (!ByteArray.toList (Prod.fst (Prod.snd (Prod.snd x0))) == ByteArray.toList (Prod.fst (Prod.snd (Prod.snd x1)))) = true
      · try simp only [if_pos b2] at h ⊢
        exact AtV.fin Try.func86 tabOk ext86Ok mixed (p86_2 x0 x1) ⟨b0, b1, b2, trivial⟩
      · try simp only [if_neg b2] at h ⊢
        replace b2 := Bool.eq_false_iff.2 b2
        exact AtV.fin Try.func86 tabOk ext86Ok mixed (p86_3 x0 x1) ⟨b0, b1, b2, trivial⟩

def S86 : Am.Spec := { sig := sig86, pre := fun ⟨x0, x1, _⟩ => P86 x0 x1, res := fun ⟨x0, x1, _⟩ => [⟨Ty.bool, g86_0 x0 x1⟩] }
theorem con86 : Contract Try.prog 86 S86 := contract_of Try.func86 hb86 (Nat.le_of_ble_eq_true (by kernel_rfl)) (fun ⟨x0, x1, _⟩ h _ w0 O q => at86 x0 x1 h w0 O q)


theorem eqd86 (x y : ByteArray × ByteArray × ByteArray × Unit) : g86_0 x y = true ↔ x = y := by
  obtain ⟨a, b, c, u⟩ := x
  obtain ⟨a', b', c', u'⟩ := y
  unfold g86_0
  simp only [Bool.not_eq_true', bytes_ne]
  by_cases h1 : a = a'
  · by_cases h2 : b = b'
    · by_cases h3 : c = c'
      · simp [h1, h2, h3]
      · simp [h1, h2, h3]
    · simp [h1, h2]
  · simp [h1]

end Go.Proofs.Ytjkeinpcphkfbaa

/- Function 38 (laws.eqBlockS): its runs between cut points. Written by a program of this repo (gen). -/
set_option linter.unusedVariables false
set_option linter.unusedSimpArgs false
set_option maxRecDepth 100000
namespace Go.Proofs.Ytjkeinpcphkfbaa
open Go Go.Am Go.Proofs
def ext38 : Ext := [(86, S86)]
theorem call38_86 : Callable Try.prog 86 := ⟨Try.f86, Try.func86, by kernel_rfl, by kernel_rfl⟩
theorem ext38Ok : ExtOk Try.prog ext38 := ⟨⟨call38_86, con86⟩, trivial⟩
/-! Function 38. -/
noncomputable def b38 : Code := bodyOf Try.f38
theorem hb38 : Try.f38.body = some b38 := by kernel_rfl
def sig38 : List AT := [AT.v (Ty.sl (Ty.cons Ty.str (Ty.cons Ty.str (Ty.cons Ty.str Ty.unit)))), AT.v (Ty.sl (Ty.cons Ty.str (Ty.cons Ty.str (Ty.cons Ty.str Ty.unit))))]
def tys38 : List Ty := [Ty.bool]
def E38_4 (v5 : Int) (x0 : List (ByteArray × ByteArray × ByteArray × Unit)) (x1 : List (ByteArray × ByteArray × ByteArray × Unit)) : Env := [(0, PV.a (Atom.sl (Ty.cons Ty.str (Ty.cons Ty.str (Ty.cons Ty.str Ty.unit))) x0)), (1, PV.a (Atom.sl (Ty.cons Ty.str (Ty.cons Ty.str (Ty.cons Ty.str Ty.unit))) x1)), (5, PV.a (Atom.val (Value.int IntKind.i64 v5)))]
def L38_4 (v5 : Int) (x0 : List (ByteArray × ByteArray × ByteArray × Unit)) (x1 : List (ByteArray × ByteArray × ByteArray × Unit)) : Heap := []
mutual
def R38 : Nat → List (ByteArray × ByteArray × ByteArray × Unit) → List (ByteArray × ByteArray × ByteArray × Unit) → List Dyn → Prop
  | 0, _, _, _ => False
  | n + 1, x0, x1, ds => (if ((↑(List.length x0) : Int) != (↑(List.length x1) : Int)) = true then (ds = [Dyn.mk Ty.bool Bool.false]) else (R38_4 n (0) (x0) (x1) ds))
def R38_4 : Nat → Int → List (ByteArray × ByteArray × ByteArray × Unit) → List (ByteArray × ByteArray × ByteArray × Unit) → List Dyn → Prop
  | 0, _, _, _, _ => False
  | n + 1, v5, x0, x1, ds => (if (Decidable.decide (v5 < (↑(List.length x0) : Int))) = true then ((0 ≤ v5) ∧ (v5 < (↑(List.length x0) : Int)) ∧ ((0 ≤ v5) ∧ (v5 < (↑(List.length x1) : Int)) ∧ (if (!g86_0 (List.getD x0 (Int.toNat v5) (ByteArray.empty, ByteArray.empty, ByteArray.empty, ())) (List.getD x1 (Int.toNat v5) (ByteArray.empty, ByteArray.empty, ByteArray.empty, ()))) = true then (ds = [Dyn.mk Ty.bool Bool.false]) else ((InR IntKind.i64 (v5 + 1)) ∧ (R38_4 n (v5 + 1) (x0) (x1) ds))))) else (ds = [Dyn.mk Ty.bool Bool.true]))
end
theorem p38_0 (x0 : List (ByteArray × ByteArray × ByteArray × Unit)) (x1 : List (ByteArray × ByteArray × ByteArray × Unit)) : runF tab ext38 false 27 [] 2000 [] tys38 Try.f38.results [true] [.code b38] (entE 0 0 sig38 (x0, x1, ())) (entL sig38 (x0, x1, ())) = some ([Dyn.mk Ty.bool Bool.false], [], [((↑(List.length x0) : Int) != (↑(List.length x1) : Int)) = Bool.true]) := by kernel_rfl
theorem p38_1 (x0 : List (ByteArray × ByteArray × ByteArray × Unit)) (x1 : List (ByteArray × ByteArray × ByteArray × Unit)) : Am.runN tab ext38 false 27 [] 2000 [] [] [0, 1, 5] [] [false] [.code b38] (entE 0 0 sig38 (x0, x1, ())) (entL sig38 (x0, x1, ())) = some (cutAt b38 4, E38_4 (0) (x0) (x1), L38_4 (0) (x0) (x1), [((↑(List.length x0) : Int) != (↑(List.length x1) : Int)) = Bool.false]) := by kernel_rfl
theorem p38_2 (v5 : Int) (x0 : List (ByteArray × ByteArray × ByteArray × Unit)) (x1 : List (ByteArray × ByteArray × ByteArray × Unit)) : runF tab ext38 false 27 [] 2000 [] tys38 Try.f38.results [true, true] (cutAt b38 4) (E38_4 v5 x0 x1) (L38_4 v5 x0 x1) = some ([Dyn.mk Ty.bool Bool.false], [], [Decidable.decide (v5 < (↑(List.length x0) : Int)) = Bool.true, 0 ≤ v5, v5 < (↑(List.length x0) : Int), 0 ≤ v5, v5 < (↑(List.length x1) : Int), True, (!g86_0 (List.getD x0 (Int.toNat v5) (ByteArray.empty, ByteArray.empty, ByteArray.empty, ())) (List.getD x1 (Int.toNat v5) (ByteArray.empty, ByteArray.empty, ByteArray.empty, ()))) = Bool.true]) := by kernel_rfl
theorem p38_3 (v5 : Int) (x0 : List (ByteArray × ByteArray × ByteArray × Unit)) (x1 : List (ByteArray × ByteArray × ByteArray × Unit)) : Am.runN tab ext38 false 27 [] 2000 [] [] [0, 1, 5] [] [true, false] (cutAt b38 4) (E38_4 v5 x0 x1) (L38_4 v5 x0 x1) = some (cutAt b38 4, E38_4 (v5 + 1) (x0) (x1), L38_4 (v5 + 1) (x0) (x1), [Decidable.decide (v5 < (↑(List.length x0) : Int)) = Bool.true, 0 ≤ v5, v5 < (↑(List.length x0) : Int), 0 ≤ v5, v5 < (↑(List.length x1) : Int), True, (!g86_0 (List.getD x0 (Int.toNat v5) (ByteArray.empty, ByteArray.empty, ByteArray.empty, ())) (List.getD x1 (Int.toNat v5) (ByteArray.empty, ByteArray.empty, ByteArray.empty, ()))) = Bool.false, InR IntKind.i64 (v5 + 1)]) := by kernel_rfl
theorem p38_4 (v5 : Int) (x0 : List (ByteArray × ByteArray × ByteArray × Unit)) (x1 : List (ByteArray × ByteArray × ByteArray × Unit)) : runF tab ext38 false 27 [] 2000 [] tys38 Try.f38.results [false] (cutAt b38 4) (E38_4 v5 x0 x1) (L38_4 v5 x0 x1) = some ([Dyn.mk Ty.bool Bool.true], [], [Decidable.decide (v5 < (↑(List.length x0) : Int)) = Bool.false]) := by kernel_rfl
theorem snd38 : ∀ n, (∀ (x0 : List (ByteArray × ByteArray × ByteArray × Unit)) (x1 : List (ByteArray × ByteArray × ByteArray × Unit)) ds, R38 n x0 x1 ds → ∀ w0 O q, AtV Try.prog 38 (PostR ds [] [] q w0 O) 27 w0 O q [] [.code b38] (entE 0 0 sig38 (x0, x1, ())) (entL sig38 (x0, x1, ()))) ∧ (∀ (v5 : Int) (x0 : List (ByteArray × ByteArray × ByteArray × Unit)) (x1 : List (ByteArray × ByteArray × ByteArray × Unit)) ds, R38_4 n v5 x0 x1 ds → ∀ w0 O q, AtV Try.prog 38 (PostR ds [] [] q w0 O) 27 w0 O q [] (cutAt b38 4) (E38_4 v5 x0 x1) (L38_4 v5 x0 x1)) := by
  intro n
  induction n with
  | zero => exact ⟨fun _ _ _ h => by simp only [R38] at h, fun _ _ _ _ h => by simp only [R38_4] at h⟩
  | succ n ih =>
  obtain ⟨ih, ih4⟩ := ih
  refine ⟨?_, ?_⟩
  · intro x0 x1 ds h w0 O q
    rw [R38] at h
    by_cases b0 : ((↑(List.length x0) : Int) != (↑(List.length x1) : Int)) = true
    · rw [if_pos b0] at h
      subst h
      exact AtV.fin Try.func38 tabOk ext38Ok mixed (p38_0 x0 x1) ⟨b0, trivial⟩
    · rw [if_neg b0] at h
      replace b0 := Bool.eq_false_iff.2 b0
      exact AtV.runN tabOk ext38Ok mixed (p38_1 x0 x1) ⟨b0, trivial⟩ (ih4 _ _ _ _ h w0 O q)

  · intro v5 x0 x1 ds h w0 O q
    rw [R38_4] at h
    by_cases b0 : (Decidable.decide (v5 < (↑(List.length x0) : Int))) = true
    · rw [if_pos b0] at h
      obtain ⟨s0, s1, h⟩ := h
      obtain ⟨s2, s3, h⟩ := h
      by_cases b1 : (!g86_0 (List.getD x0 (Int.toNat v5) (ByteArray.empty, ByteArray.empty, ByteArray.empty, ())) (List.getD x1 (Int.toNat v5) (ByteArray.empty, ByteArray.empty, ByteArray.empty, ()))) = true
      · rw [if_pos b1] at h
        subst h
        exact AtV.fin Try.func38 tabOk ext38Ok mixed (p38_2 v5 x0 x1) ⟨b0, s0, s1, s2, s3, trivial, b1, trivial⟩
      · rw [if_neg b1] at h
        replace b1 := Bool.eq_false_iff.2 b1
        obtain ⟨s4, h⟩ := h
        exact AtV.runN tabOk ext38Ok mixed (p38_3 v5 x0 x1) ⟨b0, s0, s1, s2, s3, trivial, b1, s4, trivial⟩ (ih4 _ _ _ _ h w0 O q)
    · rw [if_neg b0] at h
      replace b0 := Bool.eq_false_iff.2 b0
      subst h
      exact AtV.fin Try.func38 tabOk ext38Ok mixed (p38_4 v5 x0 x1) ⟨b0, trivial⟩



theorem eq38 (x0 x1 : List (ByteArray × ByteArray × ByteArray × Unit)) (hl : x0.length = x1.length) (hm : x0.length ≤ maxLen) : ∀ k i : Nat, i + k = x0.length → R38_4 (k + 1) (i : Int) x0 x1 [⟨.bool, decide (x0.drop i = x1.drop i)⟩] := by
  intro k
  induction k with
  | zero =>
    intro i hi
    have h1 : ¬ (i : Int) < (x0.length : Int) := by omega
    rw [R38_4, if_neg (by simpa using h1), drop_end x0 i (by omega), drop_end x1 i (by omega)]
    simp
  | succ k ih =>
    intro i hi
    have h1 : (i : Int) < (x0.length : Int) := by omega
    rw [R38_4, if_pos (by simpa using h1)]
    refine ⟨by omega, h1, by omega, by omega, ?_⟩
    simp only [Int.toNat_natCast]
    rw [drop_get x0 i (ByteArray.empty, ByteArray.empty, ByteArray.empty, ()) (by omega), drop_get x1 i (ByteArray.empty, ByteArray.empty, ByteArray.empty, ()) (by omega)]
    by_cases he : x0.getD i (ByteArray.empty, ByteArray.empty, ByteArray.empty, ()) = x1.getD i (ByteArray.empty, ByteArray.empty, ByteArray.empty, ())
    · have hd := (eqd86 _ _).2 he
      rw [if_neg (by rw [hd]; simp)]
      refine ⟨inR_up hm (by omega), ?_⟩
      have := ih (i + 1) (by omega)
      simp only [he, List.cons.injEq, true_and]
      exact this
    · have hd : g86_0 (x0.getD i (ByteArray.empty, ByteArray.empty, ByteArray.empty, ())) (x1.getD i (ByteArray.empty, ByteArray.empty, ByteArray.empty, ())) = false :=
        Bool.eq_false_iff.2 fun h => he ((eqd86 _ _).1 h)
      rw [if_pos (by rw [hd]; rfl)]
      simp only [he, List.cons.injEq, false_and, decide_false]

def g38_0 (x0 x1 : List (ByteArray × ByteArray × ByteArray × Unit)) : Bool := decide (x0 = x1)
def P38 (x0 x1 : List (ByteArray × ByteArray × ByteArray × Unit)) : Prop := True
def S38 : Am.Spec := { sig := sig38, pre := fun ⟨x0, x1, _⟩ => P38 x0 x1, res := fun ⟨x0, x1, _⟩ => [⟨Ty.bool, g38_0 x0 x1⟩] }
theorem con38 : Contract Try.prog 38 S38 := contract_of Try.func38 hb38 (Nat.le_of_ble_eq_true (by kernel_rfl)) (fun ⟨x0, x1, _⟩ h hwf w0 O q => by
  refine (snd38 (x0.length + 2)).1 x0 x1 _ ?_ w0 O q
  show R38 (x0.length + 1 + 1) x0 x1 [⟨Ty.bool, decide (x0 = x1)⟩]
  rw [R38]
  by_cases hl : x0.length = x1.length
  · rw [if_neg (by simp [hl])]
    have := eq38 x0 x1 hl hwf.1.1 x0.length 0 (by omega)
    simpa using this
  · rw [if_pos (by simp; omega)]
    have : x0 ≠ x1 := fun h => hl (by rw [h])
    simp [this])

end Go.Proofs.Ytjkeinpcphkfbaa

/- Function 72 (laws.markText): its runs between cut points. Written by a program of this repo (gen). -/
set_option linter.unusedVariables false
set_option linter.unusedSimpArgs false
set_option maxRecDepth 100000
namespace Go.Proofs.Ytjkeinpcphkfbaa
open Go Go.Am Go.Proofs
def ext72 : Ext := []
theorem ext72Ok : ExtOk Try.prog ext72 := trivial
/-! Function 72. -/
noncomputable def b72 : Code := bodyOf Try.f72
theorem hb72 : Try.f72.body = some b72 := by kernel_rfl
def sig72 : List AT := [AT.v (Ty.int IntKind.i64)]
def tys72 : List Ty := [Ty.str]
def E72_4 (v3 : ByteArray) (x0 : Int) : Env := [(0, PV.a (Atom.val (Value.int IntKind.i64 x0))), (3, PV.a (Atom.val (Value.string v3)))]
def L72_4 (v3 : ByteArray) (x0 : Int) : Heap := []
mutual
def R72 : Nat → Int → List Dyn → Prop
  | 0, _, _ => False
  | n + 1, x0, ds => (if (Decidable.decide (x0 ≤ 0)) = true then (ds = [Dyn.mk Ty.str (ByteArray.mk #[109, 48])]) else (R72_4 n (ByteArray.mk #[]) (x0) ds))
def R72_4 : Nat → ByteArray → Int → List Dyn → Prop
  | 0, _, _, _ => False
  | n + 1, v3, x0, ds => (if (Decidable.decide (x0 > 0)) = true then ((InR IntKind.i64 (Int.tmod x0 10)) ∧ ((InR IntKind.i64 (48 + Int.tmod x0 10)) ∧ ((InR IntKind.u8 (48 + Int.tmod x0 10)) ∧ ((ByteArray.size (bytesStr [48 + Int.tmod x0 10]) + ByteArray.size v3 ≤ 9223372036854775807) ∧ ((InR IntKind.i64 (Int.tdiv x0 10)) ∧ (R72_4 n (bytesStr [48 + Int.tmod x0 10] ++ v3) (Int.tdiv x0 10) ds)))))) else ((1 + ByteArray.size v3 ≤ 9223372036854775807) ∧ (ds = [Dyn.mk Ty.str (ByteArray.mk #[109] ++ v3)])))
end
theorem p72_0 (x0 : Int) : runF tab ext72 false 20 [] 2000 [] tys72 Try.f72.results [true] [.code b72] (entE 0 0 sig72 (x0, ())) (entL sig72 (x0, ())) = some ([Dyn.mk Ty.str (ByteArray.mk #[109, 48])], [], [Decidable.decide (x0 ≤ 0) = Bool.true]) := by kernel_rfl
theorem p72_1 (x0 : Int) : Am.runN tab ext72 false 20 [] 2000 [] [] [0, 3] [] [false] [.code b72] (entE 0 0 sig72 (x0, ())) (entL sig72 (x0, ())) = some (cutAt b72 4, E72_4 (ByteArray.mk #[]) (x0), L72_4 (ByteArray.mk #[]) (x0), [Decidable.decide (x0 ≤ 0) = Bool.false]) := by kernel_rfl
theorem p72_2 (v3 : ByteArray) (x0 : Int) : Am.runN tab ext72 false 20 [] 2000 [] [] [0, 3] [] [true] (cutAt b72 4) (E72_4 v3 x0) (L72_4 v3 x0) = some (cutAt b72 4, E72_4 (bytesStr [48 + Int.tmod x0 10] ++ v3) (Int.tdiv x0 10), L72_4 (bytesStr [48 + Int.tmod x0 10] ++ v3) (Int.tdiv x0 10), [Decidable.decide (x0 > 0) = Bool.true, (10 : Int) ≠ (0 : Int), InR IntKind.i64 (Int.tmod x0 10), InR IntKind.i64 (48 + Int.tmod x0 10), InR IntKind.u8 (48 + Int.tmod x0 10), ByteArray.size (bytesStr [48 + Int.tmod x0 10]) + ByteArray.size v3 ≤ 9223372036854775807, (10 : Int) ≠ (0 : Int), InR IntKind.i64 (Int.tdiv x0 10)]) := by kernel_rfl
theorem p72_3 (v3 : ByteArray) (x0 : Int) : runF tab ext72 false 20 [] 2000 [] tys72 Try.f72.results [false] (cutAt b72 4) (E72_4 v3 x0) (L72_4 v3 x0) = some ([Dyn.mk Ty.str (ByteArray.mk #[109] ++ v3)], [], [Decidable.decide (x0 > 0) = Bool.false, 1 + ByteArray.size v3 ≤ 9223372036854775807]) := by kernel_rfl
theorem snd72 : ∀ n, (∀ (x0 : Int) ds, R72 n x0 ds → ∀ w0 O q, AtV Try.prog 72 (PostR ds [] [] q w0 O) 20 w0 O q [] [.code b72] (entE 0 0 sig72 (x0, ())) (entL sig72 (x0, ()))) ∧ (∀ (v3 : ByteArray) (x0 : Int) ds, R72_4 n v3 x0 ds → ∀ w0 O q, AtV Try.prog 72 (PostR ds [] [] q w0 O) 20 w0 O q [] (cutAt b72 4) (E72_4 v3 x0) (L72_4 v3 x0)) := by
  intro n
  induction n with
  | zero => exact ⟨fun _ _ h => by simp only [R72] at h, fun _ _ _ h => by simp only [R72_4] at h⟩
  | succ n ih =>
  obtain ⟨ih, ih4⟩ := ih
  refine ⟨?_, ?_⟩
  · intro x0 ds h w0 O q
    rw [R72] at h
    by_cases b0 : (Decidable.decide (x0 ≤ 0)) = true
    · rw [if_pos b0] at h
      subst h
      exact AtV.fin Try.func72 tabOk ext72Ok mixed (p72_0 x0) ⟨b0, trivial⟩
    · rw [if_neg b0] at h
      replace b0 := Bool.eq_false_iff.2 b0
      exact AtV.runN tabOk ext72Ok mixed (p72_1 x0) ⟨b0, trivial⟩ (ih4 _ _ _ h w0 O q)

  · intro v3 x0 ds h w0 O q
    rw [R72_4] at h
    by_cases b0 : (Decidable.decide (x0 > 0)) = true
    · rw [if_pos b0] at h
      obtain ⟨s0, h⟩ := h
      obtain ⟨s1, h⟩ := h
      obtain ⟨s2, h⟩ := h
      obtain ⟨s3, h⟩ := h
      obtain ⟨s4, h⟩ := h
      exact AtV.runN tabOk ext72Ok mixed (p72_2 v3 x0) ⟨b0, (by decide), s0, s1, s2, s3, (by decide), s4, trivial⟩ (ih4 _ _ _ h w0 O q)
    · rw [if_neg b0] at h
      replace b0 := Bool.eq_false_iff.2 b0
      obtain ⟨s0, h⟩ := h
      subst h
      exact AtV.fin Try.func72 tabOk ext72Ok mixed (p72_3 v3 x0) ⟨b0, s0, trivial⟩



def loop72 : Nat → ByteArray → Int → ByteArray
  | 0, v, _ => v
  | n + 1, v, x => if 0 < x then loop72 n (bytesStr [48 + Int.tmod x 10] ++ v) (Int.tdiv x 10) else v

theorem run72 : ∀ (n : Nat) (v : ByteArray) (x : Int), x < 10 ^ n → InR .i64 x → v.size + n ≤ 1000 → R72_4 (n + 1) v x [⟨.str, ByteArray.mk #[109] ++ loop72 n v x⟩] := by
  intro n
  induction n with
  | zero =>
    intro v x h1 _ h2
    rw [R72_4, if_neg (by simp at h1 ⊢; omega)]
    exact ⟨by omega, rfl⟩
  | succ n ih =>
    intro v x h1 hi h2
    rw [i64_iff] at hi
    rw [R72_4]
    by_cases hx : 0 < x
    · rw [if_pos (by simpa using hx)]
      have e1 : Int.tmod x 10 = x % 10 := Int.tmod_eq_emod_of_nonneg (by omega)
      have e2 : Int.tdiv x 10 = x / 10 := Int.tdiv_eq_ediv_of_nonneg (by omega)
      have hs : (bytesStr [48 + Int.tmod x 10]).size = 1 := bytesStr_size _
      have hp : (10 : Int) ^ (n + 1) = 10 * 10 ^ n := by rw [Int.pow_succ, Int.mul_comm]
      refine ⟨by rw [i64_iff, e1]; omega, by rw [i64_iff, e1]; omega, by rw [u8_iff, e1]; omega, by rw [hs]; omega, by rw [i64_iff, e2]; omega, ?_⟩
      have := ih (bytesStr [48 + Int.tmod x 10] ++ v) (Int.tdiv x 10) (by rw [e2]; omega) (by rw [i64_iff, e2]; omega) (by rw [ByteArray.size_append, hs]; omega)
      simp only [loop72, if_pos hx]
      exact this
    · rw [if_neg (by simp; omega)]
      simp only [loop72, if_neg hx]
      exact ⟨by omega, trivial⟩

def g72_0 (x0 : Int) : ByteArray := if x0 ≤ 0 then ByteArray.mk #[109, 48] else ByteArray.mk #[109] ++ loop72 19 (ByteArray.mk #[]) x0
def P72 (x0 : Int) : Prop := True

theorem top72 (x0 : Int) (hi : InR .i64 x0) : R72 21 x0 [⟨.str, g72_0 x0⟩] := by
  rw [R72]
  unfold g72_0
  by_cases h : x0 ≤ 0
  · rw [if_pos (by simpa using h), if_pos h]
  · rw [if_neg (by simpa using h), if_neg h]
    have hi' := hi
    rw [i64_iff] at hi'
    exact run72 19 _ x0 (by omega) hi (by decide)

def S72 : Am.Spec := { sig := sig72, pre := fun ⟨x0, _⟩ => P72 x0, res := fun ⟨x0, _⟩ => [⟨.str, g72_0 x0⟩] }
theorem con72 : Contract Try.prog 72 S72 := contract_of Try.func72 hb72 (Nat.le_of_ble_eq_true (by kernel_rfl)) (fun ⟨x0, _⟩ h hwf w0 O q =>
  (snd72 _).1 x0 _ (top72 x0 hwf.1) w0 O q)

end Go.Proofs.Ytjkeinpcphkfbaa

/- Function 47 (laws.markBlockS): its runs between cut points. Written by a program of this repo (gen). -/
set_option linter.unusedVariables false
set_option linter.unusedSimpArgs false
set_option maxRecDepth 100000
namespace Go.Proofs.Ytjkeinpcphkfbaa
open Go Go.Am Go.Proofs
def ext47 : Ext := [(72, S72)]
theorem call47_72 : Callable Try.prog 72 := ⟨Try.f72, Try.func72, by kernel_rfl, by kernel_rfl⟩
theorem ext47Ok : ExtOk Try.prog ext47 := ⟨⟨call47_72, con72⟩, trivial⟩
/-! Function 47. -/
noncomputable def b47 : Code := bodyOf Try.f47
theorem hb47 : Try.f47.body = some b47 := by kernel_rfl
def sig47 : List AT := [AT.own (Ty.cons Ty.str (Ty.cons Ty.str (Ty.cons Ty.str Ty.unit))), AT.v (Ty.int IntKind.i64)]
def tys47 : List Ty := [Ty.int IntKind.i64]
def E47_2 (v5 : Int) (x1 : Int) (x0 : List (ByteArray × ByteArray × ByteArray × Unit)) : Env := [(0, PV.a (Atom.osl 0 Option.none)), (1, PV.a (Atom.val (Value.int IntKind.i64 x1))), (5, PV.a (Atom.val (Value.int IntKind.i64 v5)))]
def L47_2 (v5 : Int) (x1 : Int) (x0 : List (ByteArray × ByteArray × ByteArray × Unit)) : Heap := [Option.some (Arr.mk (Ty.cons Ty.str (Ty.cons Ty.str (Ty.cons Ty.str Ty.unit))) x0 Bool.false)]
mutual
def R47 : Nat → List (ByteArray × ByteArray × ByteArray × Unit) → Int → List Dyn → List (Option Lst) → Prop
  | 0, _, _, _, _ => False
  | n + 1, x0, x1, ds, us => (R47_2 n (0) (x1) (x0) ds us)
def R47_2 : Nat → Int → Int → List (ByteArray × ByteArray × ByteArray × Unit) → List Dyn → List (Option Lst) → Prop
  | 0, _, _, _, _, _ => False
  | n + 1, v5, x1, x0, ds, us => (if (Decidable.decide (v5 < (↑(List.length x0) : Int))) = true then ((0 ≤ v5) ∧ (v5 < (↑(List.length x0) : Int)) ∧ ((InR IntKind.i64 (x1 + 1)) ∧ ((0 ≤ v5) ∧ (v5 < (↑(List.length (List.set x0 (Int.toNat v5) (g72_0 x1, Prod.snd (List.getD x0 (Int.toNat v5) (ByteArray.empty, ByteArray.empty, ByteArray.empty, ()))))) : Int)) ∧ ((InR IntKind.i64 (x1 + 1 + 1)) ∧ ((0 ≤ v5) ∧ (v5 < (↑(List.length (List.set (List.set x0 (Int.toNat v5) (g72_0 x1, Prod.snd (List.getD x0 (Int.toNat v5) (ByteArray.empty, ByteArray.empty, ByteArray.empty, ())))) (Int.toNat v5) (Prod.fst (List.getD (List.set x0 (Int.toNat v5) (g72_0 x1, Prod.snd (List.getD x0 (Int.toNat v5) (ByteArray.empty, ByteArray.empty, ByteArray.empty, ())))) (Int.toNat v5) (ByteArray.empty, ByteArray.empty, ByteArray.empty, ())), g72_0 (x1 + 1), Prod.snd (Prod.snd (List.getD (List.set x0 (Int.toNat v5) (g72_0 x1, Prod.snd (List.getD x0 (Int.toNat v5) (ByteArray.empty, ByteArray.empty, ByteArray.empty, ())))) (Int.toNat v5) (ByteArray.empty, ByteArray.empty, ByteArray.empty, ())))))) : Int)) ∧ ((InR IntKind.i64 (x1 + 1 + 1 + 1)) ∧ ((InR IntKind.i64 (v5 + 1)) ∧ (R47_2 n (v5 + 1) (x1 + 1 + 1 + 1) (List.set (List.set (List.set x0 (Int.toNat v5) (g72_0 x1, Prod.snd (List.getD x0 (Int.toNat v5) (ByteArray.empty, ByteArray.empty, ByteArray.empty, ())))) (Int.toNat v5) (Prod.fst (List.getD (List.set x0 (Int.toNat v5) (g72_0 x1, Prod.snd (List.getD x0 (Int.toNat v5) (ByteArray.empty, ByteArray.empty, ByteArray.empty, ())))) (Int.toNat v5) (ByteArray.empty, ByteArray.empty, ByteArray.empty, ())), g72_0 (x1 + 1), Prod.snd (Prod.snd (List.getD (List.set x0 (Int.toNat v5) (g72_0 x1, Prod.snd (List.getD x0 (Int.toNat v5) (ByteArray.empty, ByteArray.empty, ByteArray.empty, ())))) (Int.toNat v5) (ByteArray.empty, ByteArray.empty, ByteArray.empty, ()))))) (Int.toNat v5) (Prod.fst (List.getD (List.set (List.set x0 (Int.toNat v5) (g72_0 x1, Prod.snd (List.getD x0 (Int.toNat v5) (ByteArray.empty, ByteArray.empty, ByteArray.empty, ())))) (Int.toNat v5) (Prod.fst (List.getD (List.set x0 (Int.toNat v5) (g72_0 x1, Prod.snd (List.getD x0 (Int.toNat v5) (ByteArray.empty, ByteArray.empty, ByteArray.empty, ())))) (Int.toNat v5) (ByteArray.empty, ByteArray.empty, ByteArray.empty, ())), g72_0 (x1 + 1), Prod.snd (Prod.snd (List.getD (List.set x0 (Int.toNat v5) (g72_0 x1, Prod.snd (List.getD x0 (Int.toNat v5) (ByteArray.empty, ByteArray.empty, ByteArray.empty, ())))) (Int.toNat v5) (ByteArray.empty, ByteArray.empty, ByteArray.empty, ()))))) (Int.toNat v5) (ByteArray.empty, ByteArray.empty, ByteArray.empty, ())), Prod.fst (Prod.snd (List.getD (List.set (List.set x0 (Int.toNat v5) (g72_0 x1, Prod.snd (List.getD x0 (Int.toNat v5) (ByteArray.empty, ByteArray.empty, ByteArray.empty, ())))) (Int.toNat v5) (Prod.fst (List.getD (List.set x0 (Int.toNat v5) (g72_0 x1, Prod.snd (List.getD x0 (Int.toNat v5) (ByteArray.empty, ByteArray.empty, ByteArray.empty, ())))) (Int.toNat v5) (ByteArray.empty, ByteArray.empty, ByteArray.empty, ())), g72_0 (x1 + 1), Prod.snd (Prod.snd (List.getD (List.set x0 (Int.toNat v5) (g72_0 x1, Prod.snd (List.getD x0 (Int.toNat v5) (ByteArray.empty, ByteArray.empty, ByteArray.empty, ())))) (Int.toNat v5) (ByteArray.empty, ByteArray.empty, ByteArray.empty, ()))))) (Int.toNat v5) (ByteArray.empty, ByteArray.empty, ByteArray.empty, ()))), g72_0 (x1 + 1 + 1), Prod.snd (Prod.snd (Prod.snd (List.getD (List.set (List.set x0 (Int.toNat v5) (g72_0 x1, Prod.snd (List.getD x0 (Int.toNat v5) (ByteArray.empty, ByteArray.empty, ByteArray.empty, ())))) (Int.toNat v5) (Prod.fst (List.getD (List.set x0 (Int.toNat v5) (g72_0 x1, Prod.snd (List.getD x0 (Int.toNat v5) (ByteArray.empty, ByteArray.empty, ByteArray.empty, ())))) (Int.toNat v5) (ByteArray.empty, ByteArray.empty, ByteArray.empty, ())), g72_0 (x1 + 1), Prod.snd (Prod.snd (List.getD (List.set x0 (Int.toNat v5) (g72_0 x1, Prod.snd (List.getD x0 (Int.toNat v5) (ByteArray.empty, ByteArray.empty, ByteArray.empty, ())))) (Int.toNat v5) (ByteArray.empty, ByteArray.empty, ByteArray.empty, ()))))) (Int.toNat v5) (ByteArray.empty, ByteArray.empty, ByteArray.empty, ())))))) ds us)))))))) else (ds = [Dyn.mk (Ty.int IntKind.i64) x1] ∧ us = [Option.some (Lst.mk (Ty.cons Ty.str (Ty.cons Ty.str (Ty.cons Ty.str Ty.unit))) x0)]))
end
theorem p47_0 (x0 : List (ByteArray × ByteArray × ByteArray × Unit)) (x1 : Int) : Am.runN tab ext47 false 37 [] 2000 [0] [] [0, 1, 5] [true] [] [.code b47] (entE 0 0 sig47 (x0, x1, ())) (entL sig47 (x0, x1, ())) = some (cutAt b47 2, E47_2 (0) (x1) (x0), L47_2 (0) (x1) (x0), []) := by kernel_rfl
theorem p47_1 (v5 : Int) (x1 : Int) (x0 : List (ByteArray × ByteArray × ByteArray × Unit)) : Am.runN tab ext47 false 37 [] 2000 [0] [] [0, 1, 5] [true] [true] (cutAt b47 2) (E47_2 v5 x1 x0) (L47_2 v5 x1 x0) = some (cutAt b47 2, E47_2 (v5 + 1) (x1 + 1 + 1 + 1) (List.set (List.set (List.set x0 (Int.toNat v5) (g72_0 x1, Prod.snd (List.getD x0 (Int.toNat v5) (ByteArray.empty, ByteArray.empty, ByteArray.empty, ())))) (Int.toNat v5) (Prod.fst (List.getD (List.set x0 (Int.toNat v5) (g72_0 x1, Prod.snd (List.getD x0 (Int.toNat v5) (ByteArray.empty, ByteArray.empty, ByteArray.empty, ())))) (Int.toNat v5) (ByteArray.empty, ByteArray.empty, ByteArray.empty, ())), g72_0 (x1 + 1), Prod.snd (Prod.snd (List.getD (List.set x0 (Int.toNat v5) (g72_0 x1, Prod.snd (List.getD x0 (Int.toNat v5) (ByteArray.empty, ByteArray.empty, ByteArray.empty, ())))) (Int.toNat v5) (ByteArray.empty, ByteArray.empty, ByteArray.empty, ()))))) (Int.toNat v5) (Prod.fst (List.getD (List.set (List.set x0 (Int.toNat v5) (g72_0 x1, Prod.snd (List.getD x0 (Int.toNat v5) (ByteArray.empty, ByteArray.empty, ByteArray.empty, ())))) (Int.toNat v5) (Prod.fst (List.getD (List.set x0 (Int.toNat v5) (g72_0 x1, Prod.snd (List.getD x0 (Int.toNat v5) (ByteArray.empty, ByteArray.empty, ByteArray.empty, ())))) (Int.toNat v5) (ByteArray.empty, ByteArray.empty, ByteArray.empty, ())), g72_0 (x1 + 1), Prod.snd (Prod.snd (List.getD (List.set x0 (Int.toNat v5) (g72_0 x1, Prod.snd (List.getD x0 (Int.toNat v5) (ByteArray.empty, ByteArray.empty, ByteArray.empty, ())))) (Int.toNat v5) (ByteArray.empty, ByteArray.empty, ByteArray.empty, ()))))) (Int.toNat v5) (ByteArray.empty, ByteArray.empty, ByteArray.empty, ())), Prod.fst (Prod.snd (List.getD (List.set (List.set x0 (Int.toNat v5) (g72_0 x1, Prod.snd (List.getD x0 (Int.toNat v5) (ByteArray.empty, ByteArray.empty, ByteArray.empty, ())))) (Int.toNat v5) (Prod.fst (List.getD (List.set x0 (Int.toNat v5) (g72_0 x1, Prod.snd (List.getD x0 (Int.toNat v5) (ByteArray.empty, ByteArray.empty, ByteArray.empty, ())))) (Int.toNat v5) (ByteArray.empty, ByteArray.empty, ByteArray.empty, ())), g72_0 (x1 + 1), Prod.snd (Prod.snd (List.getD (List.set x0 (Int.toNat v5) (g72_0 x1, Prod.snd (List.getD x0 (Int.toNat v5) (ByteArray.empty, ByteArray.empty, ByteArray.empty, ())))) (Int.toNat v5) (ByteArray.empty, ByteArray.empty, ByteArray.empty, ()))))) (Int.toNat v5) (ByteArray.empty, ByteArray.empty, ByteArray.empty, ()))), g72_0 (x1 + 1 + 1), Prod.snd (Prod.snd (Prod.snd (List.getD (List.set (List.set x0 (Int.toNat v5) (g72_0 x1, Prod.snd (List.getD x0 (Int.toNat v5) (ByteArray.empty, ByteArray.empty, ByteArray.empty, ())))) (Int.toNat v5) (Prod.fst (List.getD (List.set x0 (Int.toNat v5) (g72_0 x1, Prod.snd (List.getD x0 (Int.toNat v5) (ByteArray.empty, ByteArray.empty, ByteArray.empty, ())))) (Int.toNat v5) (ByteArray.empty, ByteArray.empty, ByteArray.empty, ())), g72_0 (x1 + 1), Prod.snd (Prod.snd (List.getD (List.set x0 (Int.toNat v5) (g72_0 x1, Prod.snd (List.getD x0 (Int.toNat v5) (ByteArray.empty, ByteArray.empty, ByteArray.empty, ())))) (Int.toNat v5) (ByteArray.empty, ByteArray.empty, ByteArray.empty, ()))))) (Int.toNat v5) (ByteArray.empty, ByteArray.empty, ByteArray.empty, ())))))), L47_2 (v5 + 1) (x1 + 1 + 1 + 1) (List.set (List.set (List.set x0 (Int.toNat v5) (g72_0 x1, Prod.snd (List.getD x0 (Int.toNat v5) (ByteArray.empty, ByteArray.empty, ByteArray.empty, ())))) (Int.toNat v5) (Prod.fst (List.getD (List.set x0 (Int.toNat v5) (g72_0 x1, Prod.snd (List.getD x0 (Int.toNat v5) (ByteArray.empty, ByteArray.empty, ByteArray.empty, ())))) (Int.toNat v5) (ByteArray.empty, ByteArray.empty, ByteArray.empty, ())), g72_0 (x1 + 1), Prod.snd (Prod.snd (List.getD (List.set x0 (Int.toNat v5) (g72_0 x1, Prod.snd (List.getD x0 (Int.toNat v5) (ByteArray.empty, ByteArray.empty, ByteArray.empty, ())))) (Int.toNat v5) (ByteArray.empty, ByteArray.empty, ByteArray.empty, ()))))) (Int.toNat v5) (Prod.fst (List.getD (List.set (List.set x0 (Int.toNat v5) (g72_0 x1, Prod.snd (List.getD x0 (Int.toNat v5) (ByteArray.empty, ByteArray.empty, ByteArray.empty, ())))) (Int.toNat v5) (Prod.fst (List.getD (List.set x0 (Int.toNat v5) (g72_0 x1, Prod.snd (List.getD x0 (Int.toNat v5) (ByteArray.empty, ByteArray.empty, ByteArray.empty, ())))) (Int.toNat v5) (ByteArray.empty, ByteArray.empty, ByteArray.empty, ())), g72_0 (x1 + 1), Prod.snd (Prod.snd (List.getD (List.set x0 (Int.toNat v5) (g72_0 x1, Prod.snd (List.getD x0 (Int.toNat v5) (ByteArray.empty, ByteArray.empty, ByteArray.empty, ())))) (Int.toNat v5) (ByteArray.empty, ByteArray.empty, ByteArray.empty, ()))))) (Int.toNat v5) (ByteArray.empty, ByteArray.empty, ByteArray.empty, ())), Prod.fst (Prod.snd (List.getD (List.set (List.set x0 (Int.toNat v5) (g72_0 x1, Prod.snd (List.getD x0 (Int.toNat v5) (ByteArray.empty, ByteArray.empty, ByteArray.empty, ())))) (Int.toNat v5) (Prod.fst (List.getD (List.set x0 (Int.toNat v5) (g72_0 x1, Prod.snd (List.getD x0 (Int.toNat v5) (ByteArray.empty, ByteArray.empty, ByteArray.empty, ())))) (Int.toNat v5) (ByteArray.empty, ByteArray.empty, ByteArray.empty, ())), g72_0 (x1 + 1), Prod.snd (Prod.snd (List.getD (List.set x0 (Int.toNat v5) (g72_0 x1, Prod.snd (List.getD x0 (Int.toNat v5) (ByteArray.empty, ByteArray.empty, ByteArray.empty, ())))) (Int.toNat v5) (ByteArray.empty, ByteArray.empty, ByteArray.empty, ()))))) (Int.toNat v5) (ByteArray.empty, ByteArray.empty, ByteArray.empty, ()))), g72_0 (x1 + 1 + 1), Prod.snd (Prod.snd (Prod.snd (List.getD (List.set (List.set x0 (Int.toNat v5) (g72_0 x1, Prod.snd (List.getD x0 (Int.toNat v5) (ByteArray.empty, ByteArray.empty, ByteArray.empty, ())))) (Int.toNat v5) (Prod.fst (List.getD (List.set x0 (Int.toNat v5) (g72_0 x1, Prod.snd (List.getD x0 (Int.toNat v5) (ByteArray.empty, ByteArray.empty, ByteArray.empty, ())))) (Int.toNat v5) (ByteArray.empty, ByteArray.empty, ByteArray.empty, ())), g72_0 (x1 + 1), Prod.snd (Prod.snd (List.getD (List.set x0 (Int.toNat v5) (g72_0 x1, Prod.snd (List.getD x0 (Int.toNat v5) (ByteArray.empty, ByteArray.empty, ByteArray.empty, ())))) (Int.toNat v5) (ByteArray.empty, ByteArray.empty, ByteArray.empty, ()))))) (Int.toNat v5) (ByteArray.empty, ByteArray.empty, ByteArray.empty, ())))))), [Decidable.decide (v5 < (↑(List.length x0) : Int)) = Bool.true, True, 0 ≤ v5, v5 < (↑(List.length x0) : Int), InR IntKind.i64 (x1 + 1), True, 0 ≤ v5, v5 < (↑(List.length (List.set x0 (Int.toNat v5) (g72_0 x1, Prod.snd (List.getD x0 (Int.toNat v5) (ByteArray.empty, ByteArray.empty, ByteArray.empty, ()))))) : Int), InR IntKind.i64 (x1 + 1 + 1), True, 0 ≤ v5, v5 < (↑(List.length (List.set (List.set x0 (Int.toNat v5) (g72_0 x1, Prod.snd (List.getD x0 (Int.toNat v5) (ByteArray.empty, ByteArray.empty, ByteArray.empty, ())))) (Int.toNat v5) (Prod.fst (List.getD (List.set x0 (Int.toNat v5) (g72_0 x1, Prod.snd (List.getD x0 (Int.toNat v5) (ByteArray.empty, ByteArray.empty, ByteArray.empty, ())))) (Int.toNat v5) (ByteArray.empty, ByteArray.empty, ByteArray.empty, ())), g72_0 (x1 + 1), Prod.snd (Prod.snd (List.getD (List.set x0 (Int.toNat v5) (g72_0 x1, Prod.snd (List.getD x0 (Int.toNat v5) (ByteArray.empty, ByteArray.empty, ByteArray.empty, ())))) (Int.toNat v5) (ByteArray.empty, ByteArray.empty, ByteArray.empty, ())))))) : Int), InR IntKind.i64 (x1 + 1 + 1 + 1), InR IntKind.i64 (v5 + 1)]) := by kernel_rfl
theorem p47_2 (v5 : Int) (x1 : Int) (x0 : List (ByteArray × ByteArray × ByteArray × Unit)) : runF tab ext47 false 37 [] 2000 [0] tys47 Try.f47.results [false] (cutAt b47 2) (E47_2 v5 x1 x0) (L47_2 v5 x1 x0) = some ([Dyn.mk (Ty.int IntKind.i64) x1], [Option.some (Lst.mk (Ty.cons Ty.str (Ty.cons Ty.str (Ty.cons Ty.str Ty.unit))) x0)], [Decidable.decide (v5 < (↑(List.length x0) : Int)) = Bool.false]) := by kernel_rfl
theorem snd47 : ∀ n, (∀ (x0 : List (ByteArray × ByteArray × ByteArray × Unit)) (x1 : Int) ds us, R47 n x0 x1 ds us → ∀ w0 O q, AtV Try.prog 47 (PostR ds us [0] q w0 O) 37 w0 O q [0] [.code b47] (entE 0 0 sig47 (x0, x1, ())) (entL sig47 (x0, x1, ()))) ∧ (∀ (v5 : Int) (x1 : Int) (x0 : List (ByteArray × ByteArray × ByteArray × Unit)) ds us, R47_2 n v5 x1 x0 ds us → ∀ w0 O q, AtV Try.prog 47 (PostR ds us [0] q w0 O) 37 w0 O q [0] (cutAt b47 2) (E47_2 v5 x1 x0) (L47_2 v5 x1 x0)) := by
  intro n
  induction n with
  | zero => exact ⟨fun _ _ _ _ h => by simp only [R47] at h, fun _ _ _ _ _ h => by simp only [R47_2] at h⟩
  | succ n ih =>
  obtain ⟨ih, ih2⟩ := ih
  refine ⟨?_, ?_⟩
  · intro x0 x1 ds us h w0 O q
    rw [R47] at h
    exact AtV.runN tabOk ext47Ok mixed (p47_0 x0 x1) trivial (ih2 _ _ _ _ _ h w0 O q)

  · intro v5 x1 x0 ds us h w0 O q
    rw [R47_2] at h
    by_cases b0 : (Decidable.decide (v5 < (↑(List.length x0) : Int))) = true
    · rw [if_pos b0] at h
      obtain ⟨s0, s1, h⟩ := h
      obtain ⟨s2, h⟩ := h
      obtain ⟨s3, s4, h⟩ := h
      obtain ⟨s5, h⟩ := h
      obtain ⟨s6, s7, h⟩ := h
      obtain ⟨s8, h⟩ := h
      obtain ⟨s9, h⟩ := h
      exact AtV.runN tabOk ext47Ok mixed (p47_1 v5 x1 x0) ⟨b0, trivial, s0, s1, s2, trivial, s3, s4, s5, trivial, s6, s7, s8, s9, trivial⟩ (ih2 _ _ _ _ _ h w0 O q)
    · rw [if_neg b0] at h
      replace b0 := Bool.eq_false_iff.2 b0
      obtain ⟨h, h'⟩ := h; subst h; subst h'
      exact AtV.fin Try.func47 tabOk ext47Ok mixed (p47_2 v5 x1 x0) ⟨b0, trivial⟩



def M47 (x1 : Int) (n : Nat) : List (ByteArray × ByteArray × ByteArray × Unit) := (List.range n).map fun (j : Nat) => (g72_0 (x1 + 3 * (j : Int)), g72_0 (x1 + 3 * (j : Int) + 1), g72_0 (x1 + 3 * (j : Int) + 1 + 1), ())

theorem M47_len (x1 : Int) (n : Nat) : (M47 x1 n).length = n := by simp [M47]

theorem M47_succ (x1 : Int) (n : Nat) : M47 x1 (n + 1) = M47 x1 n ++ [(g72_0 (x1 + 3 * (n : Int)), g72_0 (x1 + 3 * (n : Int) + 1), g72_0 (x1 + 3 * (n : Int) + 1 + 1), ())] := by
  simp [M47, List.range_succ]

theorem run47 (x0 : List (ByteArray × ByteArray × ByteArray × Unit)) (x1 : Int) (hm : x0.length ≤ maxLen) (h0 : 0 ≤ x1) (h1 : x1 + 3 * x0.length ≤ 9223372036854775807) : ∀ (k i : Nat), i + k = x0.length →
    R47_2 (k + 1) (i : Int) (x1 + 3 * (i : Int)) (M47 x1 i ++ x0.drop i) [⟨.int .i64, x1 + 3 * (x0.length : Int)⟩] [some ⟨(.cons .str (.cons .str (.cons .str .unit))), M47 x1 x0.length⟩] := by
  intro k
  induction k with
  | zero =>
    intro i hi
    have hl : (M47 x1 i ++ x0.drop i).length = x0.length := by simp [M47_len]; omega
    rw [R47_2, if_neg (by rw [hl]; simp; omega), drop_end x0 i (by omega), List.append_nil]
    have : i = x0.length := by omega
    subst this
    exact ⟨rfl, rfl⟩
  | succ k ih =>
    intro i hi
    have hl : (M47 x1 i ++ x0.drop i).length = x0.length := by simp [M47_len]; omega
    have hA := M47_len x1 i
    rw [R47_2, if_pos (by rw [hl]; simp; omega)]
    rw [drop_get x0 i (ByteArray.empty, ByteArray.empty, ByteArray.empty, ()) (by omega)] at hl ⊢
    simp only [Int.toNat_natCast, set_mid _ _ _ _ i hA, get_mid _ _ _ _ i hA]
    have hl' : ∀ y : (ByteArray × ByteArray × ByteArray × Unit), ((M47 x1 i ++ y :: x0.drop (i + 1)).length : Int) = x0.length := fun y => by rw [← hl]; simp
    simp only [hl']
    refine ⟨by omega, by omega, by rw [i64_iff]; omega, by omega, by omega, by rw [i64_iff]; omega, by omega, by omega, by rw [i64_iff]; omega, inR_up hm (by omega), ?_⟩
    have hx : x1 + 3 * (i : Int) + 1 + 1 + 1 = x1 + 3 * ((i + 1 : Nat) : Int) := by omega
    have := ih (i + 1) (by omega)
    rw [M47_succ, List.append_assoc] at this
    rw [hx]
    simpa using this

def P47 (x0 : List (ByteArray × ByteArray × ByteArray × Unit)) (x1 : Int) : Prop := 0 ≤ x1 ∧ x1 + 3 * x0.length ≤ 9223372036854775807
def g47_0 (x0 : List (ByteArray × ByteArray × ByteArray × Unit)) (x1 : Int) : Int := x1 + 3 * (x0.length : Int)
def u47_0 (x0 : List (ByteArray × ByteArray × ByteArray × Unit)) (x1 : Int) : List (ByteArray × ByteArray × ByteArray × Unit) := M47 x1 x0.length

theorem top47 (x0 : List (ByteArray × ByteArray × ByteArray × Unit)) (x1 : Int) (hm : x0.length ≤ maxLen) (h : P47 x0 x1) : R47 (x0.length + 1 + 1) x0 x1 [⟨.int .i64, g47_0 x0 x1⟩] [some ⟨(.cons .str (.cons .str (.cons .str .unit))), u47_0 x0 x1⟩] := by
  rw [R47]
  have := run47 x0 x1 hm h.1 h.2 x0.length 0 (by omega)
  simpa [M47, g47_0, u47_0] using this

def S47 : Am.Spec := { sig := sig47, pre := fun ⟨x0, x1, _⟩ => P47 x0 x1, upd := fun ⟨x0, x1, _⟩ => [some ⟨(.cons .str (.cons .str (.cons .str .unit))), u47_0 x0 x1⟩], res := fun ⟨x0, x1, _⟩ => [⟨.int .i64, g47_0 x0 x1⟩] }
theorem con47 : Contract Try.prog 47 S47 := contract_of Try.func47 hb47 (Nat.le_of_ble_eq_true (by kernel_rfl)) (fun ⟨x0, x1, _⟩ h hwf w0 O q =>
  (snd47 _).1 x0 x1 _ _ (top47 x0 x1 hwf.1.1 h) w0 O q)

end Go.Proofs.Ytjkeinpcphkfbaa

/- Function 29 (laws.markStringS): its runs between cut points. Written by a program of this repo (gen). -/
set_option linter.unusedVariables false
set_option linter.unusedSimpArgs false
set_option maxRecDepth 100000
namespace Go.Proofs.Ytjkeinpcphkfbaa
open Go Go.Am Go.Proofs
def ext29 : Ext := [(72, S72)]
theorem call29_72 : Callable Try.prog 72 := ⟨Try.f72, Try.func72, by kernel_rfl, by kernel_rfl⟩
theorem ext29Ok : ExtOk Try.prog ext29 := ⟨⟨call29_72, con72⟩, trivial⟩
/-! Function 29. -/
noncomputable def b29 : Code := bodyOf Try.f29
theorem hb29 : Try.f29.body = some b29 := by kernel_rfl
def sig29 : List AT := [AT.own Ty.str, AT.v (Ty.int IntKind.i64)]
def tys29 : List Ty := [Ty.int IntKind.i64]
def E29_2 (v5 : Int) (x1 : Int) (x0 : List ByteArray) : Env := [(0, PV.a (Atom.osl 0 Option.none)), (1, PV.a (Atom.val (Value.int IntKind.i64 x1))), (5, PV.a (Atom.val (Value.int IntKind.i64 v5)))]
def L29_2 (v5 : Int) (x1 : Int) (x0 : List ByteArray) : Heap := [Option.some (Arr.mk Ty.str x0 Bool.false)]
mutual
def R29 : Nat → List ByteArray → Int → List Dyn → List (Option Lst) → Prop
  | 0, _, _, _, _ => False
  | n + 1, x0, x1, ds, us => (R29_2 n (0) (x1) (x0) ds us)
def R29_2 : Nat → Int → Int → List ByteArray → List Dyn → List (Option Lst) → Prop
  | 0, _, _, _, _, _ => False
  | n + 1, v5, x1, x0, ds, us => (if (Decidable.decide (v5 < (↑(List.length x0) : Int))) = true then ((0 ≤ v5) ∧ (v5 < (↑(List.length x0) : Int)) ∧ ((InR IntKind.i64 (x1 + 1)) ∧ ((InR IntKind.i64 (v5 + 1)) ∧ (R29_2 n (v5 + 1) (x1 + 1) (List.set x0 (Int.toNat v5) (g72_0 x1)) ds us)))) else (ds = [Dyn.mk (Ty.int IntKind.i64) x1] ∧ us = [Option.some (Lst.mk Ty.str x0)]))
end
theorem p29_0 (x0 : List ByteArray) (x1 : Int) : Am.runN tab ext29 false 20 [] 2000 [0] [] [0, 1, 5] [true] [] [.code b29] (entE 0 0 sig29 (x0, x1, ())) (entL sig29 (x0, x1, ())) = some (cutAt b29 2, E29_2 (0) (x1) (x0), L29_2 (0) (x1) (x0), []) := by kernel_rfl
theorem p29_1 (v5 : Int) (x1 : Int) (x0 : List ByteArray) : Am.runN tab ext29 false 20 [] 2000 [0] [] [0, 1, 5] [true] [true] (cutAt b29 2) (E29_2 v5 x1 x0) (L29_2 v5 x1 x0) = some (cutAt b29 2, E29_2 (v5 + 1) (x1 + 1) (List.set x0 (Int.toNat v5) (g72_0 x1)), L29_2 (v5 + 1) (x1 + 1) (List.set x0 (Int.toNat v5) (g72_0 x1)), [Decidable.decide (v5 < (↑(List.length x0) : Int)) = Bool.true, True, 0 ≤ v5, v5 < (↑(List.length x0) : Int), InR IntKind.i64 (x1 + 1), InR IntKind.i64 (v5 + 1)]) := by kernel_rfl
theorem p29_2 (v5 : Int) (x1 : Int) (x0 : List ByteArray) : runF tab ext29 false 20 [] 2000 [0] tys29 Try.f29.results [false] (cutAt b29 2) (E29_2 v5 x1 x0) (L29_2 v5 x1 x0) = some ([Dyn.mk (Ty.int IntKind.i64) x1], [Option.some (Lst.mk Ty.str x0)], [Decidable.decide (v5 < (↑(List.length x0) : Int)) = Bool.false]) := by kernel_rfl
theorem snd29 : ∀ n, (∀ (x0 : List ByteArray) (x1 : Int) ds us, R29 n x0 x1 ds us → ∀ w0 O q, AtV Try.prog 29 (PostR ds us [0] q w0 O) 20 w0 O q [0] [.code b29] (entE 0 0 sig29 (x0, x1, ())) (entL sig29 (x0, x1, ()))) ∧ (∀ (v5 : Int) (x1 : Int) (x0 : List ByteArray) ds us, R29_2 n v5 x1 x0 ds us → ∀ w0 O q, AtV Try.prog 29 (PostR ds us [0] q w0 O) 20 w0 O q [0] (cutAt b29 2) (E29_2 v5 x1 x0) (L29_2 v5 x1 x0)) := by
  intro n
  induction n with
  | zero => exact ⟨fun _ _ _ _ h => by simp only [R29] at h, fun _ _ _ _ _ h => by simp only [R29_2] at h⟩
  | succ n ih =>
  obtain ⟨ih, ih2⟩ := ih
  refine ⟨?_, ?_⟩
  · intro x0 x1 ds us h w0 O q
    rw [R29] at h
    exact AtV.runN tabOk ext29Ok mixed (p29_0 x0 x1) trivial (ih2 _ _ _ _ _ h w0 O q)

  · intro v5 x1 x0 ds us h w0 O q
    rw [R29_2] at h
    by_cases b0 : (Decidable.decide (v5 < (↑(List.length x0) : Int))) = true
    · rw [if_pos b0] at h
      obtain ⟨s0, s1, h⟩ := h
      obtain ⟨s2, h⟩ := h
      obtain ⟨s3, h⟩ := h
      exact AtV.runN tabOk ext29Ok mixed (p29_1 v5 x1 x0) ⟨b0, trivial, s0, s1, s2, s3, trivial⟩ (ih2 _ _ _ _ _ h w0 O q)
    · rw [if_neg b0] at h
      replace b0 := Bool.eq_false_iff.2 b0
      obtain ⟨h, h'⟩ := h; subst h; subst h'
      exact AtV.fin Try.func29 tabOk ext29Ok mixed (p29_2 v5 x1 x0) ⟨b0, trivial⟩



def M29 (x1 : Int) (n : Nat) : List ByteArray := (List.range n).map fun (j : Nat) => g72_0 (x1 + (j : Int))

theorem M29_len (x1 : Int) (n : Nat) : (M29 x1 n).length = n := by simp [M29]

theorem M29_step (x1 : Int) (x0 : List ByteArray) (i : Nat) (h : i < x0.length) : (M29 x1 i ++ x0.drop i).set i (g72_0 (x1 + (i : Int))) = M29 x1 (i + 1) ++ x0.drop (i + 1) := by
  rw [List.set_append_right _ _ (by rw [M29_len]; exact Nat.le_refl _), M29_len, Nat.sub_self, List.drop_eq_getElem_cons h, List.set_cons_zero]
  simp [M29, List.range_succ]

theorem run29 (x0 : List ByteArray) (x1 : Int) (hm : x0.length ≤ maxLen) (h0 : 0 ≤ x1) (h1 : x1 + x0.length ≤ 9223372036854775807) : ∀ (k i : Nat), i + k = x0.length →
    R29_2 (k + 1) (i : Int) (x1 + (i : Int)) (M29 x1 i ++ x0.drop i) [⟨.int .i64, x1 + (x0.length : Int)⟩] [some ⟨.str, M29 x1 x0.length⟩] := by
  intro k
  induction k with
  | zero =>
    intro i hi
    have hl : (M29 x1 i ++ x0.drop i).length = x0.length := by simp [M29_len]; omega
    rw [R29_2, if_neg (by rw [hl]; simp; omega), drop_end x0 i (by omega), List.append_nil]
    have : i = x0.length := by omega
    subst this
    exact ⟨rfl, rfl⟩
  | succ k ih =>
    intro i hi
    have hl : (M29 x1 i ++ x0.drop i).length = x0.length := by simp [M29_len]; omega
    rw [R29_2, if_pos (by rw [hl]; simp; omega), hl]
    simp only [Int.toNat_natCast]
    refine ⟨by omega, by omega, by rw [i64_iff]; omega, inR_up hm (by omega), ?_⟩
    rw [M29_step x1 x0 i (by omega), Int.add_assoc]
    exact ih (i + 1) (by omega)

def P29 (x0 : List ByteArray) (x1 : Int) : Prop := 0 ≤ x1 ∧ x1 + x0.length ≤ 9223372036854775807
def g29_0 (x0 : List ByteArray) (x1 : Int) : Int := x1 + (x0.length : Int)
def u29_0 (x0 : List ByteArray) (x1 : Int) : List ByteArray := M29 x1 x0.length

theorem top29 (x0 : List ByteArray) (x1 : Int) (hm : x0.length ≤ maxLen) (h : P29 x0 x1) : R29 (x0.length + 1 + 1) x0 x1 [⟨.int .i64, g29_0 x0 x1⟩] [some ⟨.str, u29_0 x0 x1⟩] := by
  rw [R29]
  have := run29 x0 x1 hm h.1 h.2 x0.length 0 (by omega)
  simpa [M29, g29_0, u29_0] using this

def S29 : Am.Spec := { sig := sig29, pre := fun ⟨x0, x1, _⟩ => P29 x0 x1, upd := fun ⟨x0, x1, _⟩ => [some ⟨.str, u29_0 x0 x1⟩], res := fun ⟨x0, x1, _⟩ => [⟨.int .i64, g29_0 x0 x1⟩] }
theorem con29 : Contract Try.prog 29 S29 := contract_of Try.func29 hb29 (Nat.le_of_ble_eq_true (by kernel_rfl)) (fun ⟨x0, x1, _⟩ h hwf w0 O q =>
  (snd29 _).1 x0 x1 _ _ (top29 x0 x1 hwf.1.1 h) w0 O q)

end Go.Proofs.Ytjkeinpcphkfbaa

/- Function 42 (laws.heldStringS): its runs between cut points. Written by a program of this repo (gen). -/
set_option linter.unusedVariables false
set_option linter.unusedSimpArgs false
set_option maxRecDepth 100000
namespace Go.Proofs.Ytjkeinpcphkfbaa
open Go Go.Am Go.Proofs
def ext42 : Ext := [(72, S72)]
theorem call42_72 : Callable Try.prog 72 := ⟨Try.f72, Try.func72, by kernel_rfl, by kernel_rfl⟩
theorem ext42Ok : ExtOk Try.prog ext42 := ⟨⟨call42_72, con72⟩, trivial⟩
/-! Function 42. -/
noncomputable def b42 : Code := bodyOf Try.f42
theorem hb42 : Try.f42.body = some b42 := by kernel_rfl
def sig42 : List AT := [AT.v (Ty.sl Ty.str), AT.v (Ty.int IntKind.i64)]
def tys42 : List Ty := [Ty.int IntKind.i64]
def E42_2 (v5 : Int) (x0 : List ByteArray) (x1 : Int) : Env := [(0, PV.a (Atom.sl Ty.str x0)), (1, PV.a (Atom.val (Value.int IntKind.i64 x1))), (5, PV.a (Atom.val (Value.int IntKind.i64 v5)))]
def L42_2 (v5 : Int) (x0 : List ByteArray) (x1 : Int) : Heap := []
mutual
def R42 : Nat → List ByteArray → Int → List Dyn → Prop
  | 0, _, _, _ => False
  | n + 1, x0, x1, ds => (R42_2 n (0) (x0) (x1) ds)
def R42_2 : Nat → Int → List ByteArray → Int → List Dyn → Prop
  | 0, _, _, _, _ => False
  | n + 1, v5, x0, x1, ds => (if (Decidable.decide (v5 < (↑(List.length x0) : Int))) = true then ((0 ≤ v5) ∧ (v5 < (↑(List.length x0) : Int)) ∧ (if (!ByteArray.toList (List.getD x0 (Int.toNat v5) ByteArray.empty) == ByteArray.toList (g72_0 x1)) = true then (ds = [Dyn.mk (Ty.int IntKind.i64) (-1)]) else ((InR IntKind.i64 (x1 + 1)) ∧ ((InR IntKind.i64 (v5 + 1)) ∧ (R42_2 n (v5 + 1) (x0) (x1 + 1) ds))))) else (ds = [Dyn.mk (Ty.int IntKind.i64) x1]))
end
theorem p42_0 (x0 : List ByteArray) (x1 : Int) : Am.runN tab ext42 false 22 [] 2000 [] [] [0, 1, 5] [] [] [.code b42] (entE 0 0 sig42 (x0, x1, ())) (entL sig42 (x0, x1, ())) = some (cutAt b42 2, E42_2 (0) (x0) (x1), L42_2 (0) (x0) (x1), []) := by kernel_rfl
theorem p42_1 (v5 : Int) (x0 : List ByteArray) (x1 : Int) : runF tab ext42 false 22 [] 2000 [] tys42 Try.f42.results [true, true] (cutAt b42 2) (E42_2 v5 x0 x1) (L42_2 v5 x0 x1) = some ([Dyn.mk (Ty.int IntKind.i64) (-1)], [], [Decidable.decide (v5 < (↑(List.length x0) : Int)) = Bool.true, 0 ≤ v5, v5 < (↑(List.length x0) : Int), True, (!ByteArray.toList (List.getD x0 (Int.toNat v5) ByteArray.empty) == ByteArray.toList (g72_0 x1)) = Bool.true]) := by kernel_rfl
theorem p42_2 (v5 : Int) (x0 : List ByteArray) (x1 : Int) : Am.runN tab ext42 false 22 [] 2000 [] [] [0, 1, 5] [] [true, false] (cutAt b42 2) (E42_2 v5 x0 x1) (L42_2 v5 x0 x1) = some (cutAt b42 2, E42_2 (v5 + 1) (x0) (x1 + 1), L42_2 (v5 + 1) (x0) (x1 + 1), [Decidable.decide (v5 < (↑(List.length x0) : Int)) = Bool.true, 0 ≤ v5, v5 < (↑(List.length x0) : Int), True, (!ByteArray.toList (List.getD x0 (Int.toNat v5) ByteArray.empty) == ByteArray.toList (g72_0 x1)) = Bool.false, InR IntKind.i64 (x1 + 1), InR IntKind.i64 (v5 + 1)]) := by kernel_rfl
theorem p42_3 (v5 : Int) (x0 : List ByteArray) (x1 : Int) : runF tab ext42 false 22 [] 2000 [] tys42 Try.f42.results [false] (cutAt b42 2) (E42_2 v5 x0 x1) (L42_2 v5 x0 x1) = some ([Dyn.mk (Ty.int IntKind.i64) x1], [], [Decidable.decide (v5 < (↑(List.length x0) : Int)) = Bool.false]) := by kernel_rfl
theorem snd42 : ∀ n, (∀ (x0 : List ByteArray) (x1 : Int) ds, R42 n x0 x1 ds → ∀ w0 O q, AtV Try.prog 42 (PostR ds [] [] q w0 O) 22 w0 O q [] [.code b42] (entE 0 0 sig42 (x0, x1, ())) (entL sig42 (x0, x1, ()))) ∧ (∀ (v5 : Int) (x0 : List ByteArray) (x1 : Int) ds, R42_2 n v5 x0 x1 ds → ∀ w0 O q, AtV Try.prog 42 (PostR ds [] [] q w0 O) 22 w0 O q [] (cutAt b42 2) (E42_2 v5 x0 x1) (L42_2 v5 x0 x1)) := by
  intro n
  induction n with
  | zero => exact ⟨fun _ _ _ h => by simp only [R42] at h, fun _ _ _ _ h => by simp only [R42_2] at h⟩
  | succ n ih =>
  obtain ⟨ih, ih2⟩ := ih
  refine ⟨?_, ?_⟩
  · intro x0 x1 ds h w0 O q
    rw [R42] at h
    exact AtV.runN tabOk ext42Ok mixed (p42_0 x0 x1) trivial (ih2 _ _ _ _ h w0 O q)

  · intro v5 x0 x1 ds h w0 O q
    rw [R42_2] at h
    by_cases b0 : (Decidable.decide (v5 < (↑(List.length x0) : Int))) = true
    · rw [if_pos b0] at h
      obtain ⟨s0, s1, h⟩ := h
      by_cases b1 : (!ByteArray.toList (List.getD x0 (Int.toNat v5) ByteArray.empty) == ByteArray.toList (g72_0 x1)) = true
      · rw [if_pos b1] at h
        subst h
        exact AtV.fin Try.func42 tabOk ext42Ok mixed (p42_1 v5 x0 x1) ⟨b0, s0, s1, trivial, b1, trivial⟩
      · rw [if_neg b1] at h
        replace b1 := Bool.eq_false_iff.2 b1
        obtain ⟨s2, h⟩ := h
        obtain ⟨s3, h⟩ := h
        exact AtV.runN tabOk ext42Ok mixed (p42_2 v5 x0 x1) ⟨b0, s0, s1, trivial, b1, s2, s3, trivial⟩ (ih2 _ _ _ _ h w0 O q)
    · rw [if_neg b0] at h
      replace b0 := Bool.eq_false_iff.2 b0
      subst h
      exact AtV.fin Try.func42 tabOk ext42Ok mixed (p42_3 v5 x0 x1) ⟨b0, trivial⟩



theorem run42 (x0 : List ByteArray) (x1 : Int) (hm : x0.length ≤ maxLen) (h0 : 0 ≤ x1) (h1 : x1 + x0.length ≤ 9223372036854775807) (he : ∀ i : Nat, i < x0.length → x0.getD i ByteArray.empty = g72_0 (x1 + (i : Int))) : ∀ (k i : Nat), i + k = x0.length →
    R42_2 (k + 1) (i : Int) x0 (x1 + (i : Int)) [⟨.int .i64, x1 + (x0.length : Int)⟩] := by
  intro k
  induction k with
  | zero =>
    intro i hi
    rw [R42_2, if_neg (by simp; omega)]
    have : i = x0.length := by omega
    subst this
    rfl
  | succ k ih =>
    intro i hi
    rw [R42_2, if_pos (by simp; omega)]
    simp only [Int.toNat_natCast]
    have hb := (bytes_eq _ _).2 (he i (by omega))
    refine ⟨by omega, by omega, ?_⟩
    rw [if_neg (by rw [hb]; simp)]
    refine ⟨by rw [i64_iff]; omega, inR_up hm (by omega), ?_⟩
    rw [Int.add_assoc]
    exact ih (i + 1) (by omega)

def P42 (x0 : List ByteArray) (x1 : Int) : Prop := (0 ≤ x1 ∧ x1 + x0.length ≤ 9223372036854775807) ∧ ∀ i : Nat, i < x0.length → x0.getD i ByteArray.empty = g72_0 (x1 + (i : Int))
def g42_0 (x0 : List ByteArray) (x1 : Int) : Int := x1 + (x0.length : Int)

theorem top42 (x0 : List ByteArray) (x1 : Int) (hm : x0.length ≤ maxLen) (h : P42 x0 x1) : R42 (x0.length + 1 + 1) x0 x1 [⟨.int .i64, g42_0 x0 x1⟩] := by
  rw [R42]
  have := run42 x0 x1 hm h.1.1 h.1.2 h.2 x0.length 0 (by omega)
  simpa [g42_0] using this

def S42 : Am.Spec := { sig := sig42, pre := fun ⟨x0, x1, _⟩ => P42 x0 x1, res := fun ⟨x0, x1, _⟩ => [⟨.int .i64, g42_0 x0 x1⟩] }
theorem con42 : Contract Try.prog 42 S42 := contract_of Try.func42 hb42 (Nat.le_of_ble_eq_true (by kernel_rfl)) (fun ⟨x0, x1, _⟩ h hwf w0 O q =>
  (snd42 _).1 x0 x1 _ (top42 x0 x1 hwf.1.1 h) w0 O q)

end Go.Proofs.Ytjkeinpcphkfbaa

/- Function 9 (laws.FnExactBlocksOfKind): its runs between cut points. Written by a program of this repo (gen). -/
set_option linter.unusedVariables false
set_option linter.unusedSimpArgs false
set_option maxRecDepth 100000
namespace Go.Proofs.Ytjkeinpcphkfbaa
open Go Go.Am Go.Proofs
def ext9 : Ext := [(34, S34), (36, S36), (45, S45), (46, S46), (28, S28), (38, S38), (47, S47), (29, S29), (42, S42)]
theorem call9_34 : Callable Try.prog 34 := ⟨Try.f34, Try.func34, by kernel_rfl, by kernel_rfl⟩
theorem call9_36 : Callable Try.prog 36 := ⟨Try.f36, Try.func36, by kernel_rfl, by kernel_rfl⟩
theorem call9_45 : Callable Try.prog 45 := ⟨Try.f45, Try.func45, by kernel_rfl, by kernel_rfl⟩
theorem call9_46 : Callable Try.prog 46 := ⟨Try.f46, Try.func46, by kernel_rfl, by kernel_rfl⟩
theorem call9_28 : Callable Try.prog 28 := ⟨Try.f28, Try.func28, by kernel_rfl, by kernel_rfl⟩
theorem call9_38 : Callable Try.prog 38 := ⟨Try.f38, Try.func38, by kernel_rfl, by kernel_rfl⟩
theorem call9_47 : Callable Try.prog 47 := ⟨Try.f47, Try.func47, by kernel_rfl, by kernel_rfl⟩
theorem call9_29 : Callable Try.prog 29 := ⟨Try.f29, Try.func29, by kernel_rfl, by kernel_rfl⟩
theorem call9_42 : Callable Try.prog 42 := ⟨Try.f42, Try.func42, by kernel_rfl, by kernel_rfl⟩
theorem ext9Ok : ExtOk Try.prog ext9 := ⟨⟨call9_34, con34⟩, ⟨call9_36, con36⟩, ⟨call9_45, con45⟩, ⟨call9_46, con46⟩, ⟨call9_28, con28⟩, ⟨call9_38, con38⟩, ⟨call9_47, con47⟩, ⟨call9_29, con29⟩, ⟨call9_42, con42⟩, trivial⟩
/-! Function 9. -/
noncomputable def b9 : Code := bodyOf Try.f9
theorem hb9 : Try.f9.body = some b9 := by kernel_rfl
def sig9 : List AT := [AT.v (Ty.sl (Ty.cons Ty.str (Ty.cons Ty.str (Ty.cons Ty.str Ty.unit)))), AT.v (Ty.str)]
def tys9 : List Ty := [Ty.bool]
def P9 (x0 : List (ByteArray × ByteArray × ByteArray × Unit)) (x1 : ByteArray) : Prop := (if (Decidable.decide ((↑(ByteArray.size x1) : Int) > 1048576)) = true then True else ((P34 x0 1048576) ∧ (if (Decidable.decide (g34_0 x0 1048576 < 0)) = true then True else ((P36 x0) ∧ ((P36 x0) ∧ (if (!g28_0 (g46_0 (g36_0 x0) x1) (g45_0 (g36_0 x0) x1)) = true then True else (if (g46_1 (g36_0 x0) x1 != g45_1 (g36_0 x0) x1) = true then True else ((P36 x0) ∧ (if (!g38_0 (g36_0 x0) (g36_0 x0)) = true then True else ((P47 (g36_0 x0) 1) ∧ (List.length (u47_0 (g36_0 x0) 1) = List.length (g36_0 x0)) ∧ (if (Decidable.decide (g47_0 (g36_0 x0) 1 < 0)) = true then True else ((P29 (g46_0 (g36_0 x0) x1) 1) ∧ (List.length (u29_0 (g46_0 (g36_0 x0) x1) 1) = List.length (g46_0 (g36_0 x0) x1)) ∧ ((P42 (u29_0 (g46_0 (g36_0 x0) x1) 1) 1) ∧ (if (Decidable.decide (g42_0 (u29_0 (g46_0 (g36_0 x0) x1) 1) 1 < 0)) = true then True else (if (g42_0 (u29_0 (g46_0 (g36_0 x0) x1) 1) 1 != g29_0 (g46_0 (g36_0 x0) x1) 1) = true then True else ((P36 x0) ∧ ((P42 (u29_0 (g46_0 (g36_0 x0) x1) 1) 1) ∧ True)))))))))))))))))
def g9_0 (x0 : List (ByteArray × ByteArray × ByteArray × Unit)) (x1 : ByteArray) : Bool := (if (Decidable.decide ((↑(ByteArray.size x1) : Int) > 1048576)) = true then Bool.true else (if (Decidable.decide (g34_0 x0 1048576 < 0)) = true then Bool.true else (if (!g28_0 (g46_0 (g36_0 x0) x1) (g45_0 (g36_0 x0) x1)) = true then Bool.false else (if (g46_1 (g36_0 x0) x1 != g45_1 (g36_0 x0) x1) = true then Bool.false else (if (!g38_0 (g36_0 x0) (g36_0 x0)) = true then Bool.false else (if (Decidable.decide (g47_0 (g36_0 x0) 1 < 0)) = true then Bool.false else (if (Decidable.decide (g42_0 (u29_0 (g46_0 (g36_0 x0) x1) 1) 1 < 0)) = true then Bool.false else (if (g42_0 (u29_0 (g46_0 (g36_0 x0) x1) 1) 1 != g29_0 (g46_0 (g36_0 x0) x1) 1) = true then Bool.false else Bool.true))))))))
theorem p9_0 (x0 : List (ByteArray × ByteArray × ByteArray × Unit)) (x1 : ByteArray) : runF tab ext9 false 104 [] 2000 [] tys9 Try.f9.results [true] [.code b9] (entE 0 0 sig9 (x0, x1, ())) (entL sig9 (x0, x1, ())) = some ([Dyn.mk Ty.bool Bool.true], [], [Decidable.decide ((↑(ByteArray.size x1) : Int) > 1048576) = Bool.true]) := by kernel_rfl
theorem p9_1 (x0 : List (ByteArray × ByteArray × ByteArray × Unit)) (x1 : ByteArray) : runF tab ext9 false 104 [] 2000 [] tys9 Try.f9.results [false, true] [.code b9] (entE 0 0 sig9 (x0, x1, ())) (entL sig9 (x0, x1, ())) = some ([Dyn.mk Ty.bool Bool.true], [], [Decidable.decide ((↑(ByteArray.size x1) : Int) > 1048576) = Bool.false, P34 x0 1048576, Decidable.decide (g34_0 x0 1048576 < 0) = Bool.true]) := by kernel_rfl
theorem p9_2 (x0 : List (ByteArray × ByteArray × ByteArray × Unit)) (x1 : ByteArray) : runF tab ext9 false 104 [] 2000 [] tys9 Try.f9.results [false, false, true, true] [.code b9] (entE 0 0 sig9 (x0, x1, ())) (entL sig9 (x0, x1, ())) = some ([Dyn.mk Ty.bool Bool.false], [], [Decidable.decide ((↑(ByteArray.size x1) : Int) > 1048576) = Bool.false, P34 x0 1048576, Decidable.decide (g34_0 x0 1048576 < 0) = Bool.false, P36 x0, True, P36 x0, True, True, (!g28_0 (g46_0 (g36_0 x0) x1) (g45_0 (g36_0 x0) x1)) = Bool.true, Bool.true = Bool.true]) := by kernel_rfl
theorem p9_3 (x0 : List (ByteArray × ByteArray × ByteArray × Unit)) (x1 : ByteArray) : runF tab ext9 false 104 [] 2000 [] tys9 Try.f9.results [false, false, false, true] [.code b9] (entE 0 0 sig9 (x0, x1, ())) (entL sig9 (x0, x1, ())) = some ([Dyn.mk Ty.bool Bool.false], [], [Decidable.decide ((↑(ByteArray.size x1) : Int) > 1048576) = Bool.false, P34 x0 1048576, Decidable.decide (g34_0 x0 1048576 < 0) = Bool.false, P36 x0, True, P36 x0, True, True, (!g28_0 (g46_0 (g36_0 x0) x1) (g45_0 (g36_0 x0) x1)) = Bool.false, (g46_1 (g36_0 x0) x1 != g45_1 (g36_0 x0) x1) = Bool.true]) := by kernel_rfl
theorem p9_4 (x0 : List (ByteArray × ByteArray × ByteArray × Unit)) (x1 : ByteArray) : runF tab ext9 false 104 [] 2000 [] tys9 Try.f9.results [false, false, false, false, true] [.code b9] (entE 0 0 sig9 (x0, x1, ())) (entL sig9 (x0, x1, ())) = some ([Dyn.mk Ty.bool Bool.false], [], [Decidable.decide ((↑(ByteArray.size x1) : Int) > 1048576) = Bool.false, P34 x0 1048576, Decidable.decide (g34_0 x0 1048576 < 0) = Bool.false, P36 x0, True, P36 x0, True, True, (!g28_0 (g46_0 (g36_0 x0) x1) (g45_0 (g36_0 x0) x1)) = Bool.false, (g46_1 (g36_0 x0) x1 != g45_1 (g36_0 x0) x1) = Bool.false, P36 x0, True, (!g38_0 (g36_0 x0) (g36_0 x0)) = Bool.true]) := by kernel_rfl
theorem p9_5 (x0 : List (ByteArray × ByteArray × ByteArray × Unit)) (x1 : ByteArray) : runF tab ext9 false 104 [] 2000 [] tys9 Try.f9.results [false, false, false, false, false, true, true, true] [.code b9] (entE 0 0 sig9 (x0, x1, ())) (entL sig9 (x0, x1, ())) = some ([Dyn.mk Ty.bool Bool.false], [], [Decidable.decide ((↑(ByteArray.size x1) : Int) > 1048576) = Bool.false, P34 x0 1048576, Decidable.decide (g34_0 x0 1048576 < 0) = Bool.false, P36 x0, True, P36 x0, True, True, (!g28_0 (g46_0 (g36_0 x0) x1) (g45_0 (g36_0 x0) x1)) = Bool.false, (g46_1 (g36_0 x0) x1 != g45_1 (g36_0 x0) x1) = Bool.false, P36 x0, True, (!g38_0 (g36_0 x0) (g36_0 x0)) = Bool.false, P47 (g36_0 x0) 1, List.length (u47_0 (g36_0 x0) 1) = List.length (g36_0 x0), Decidable.decide (g47_0 (g36_0 x0) 1 < 0) = Bool.true, Bool.true = Bool.true, Bool.true = Bool.true]) := by kernel_rfl
theorem p9_6 (x0 : List (ByteArray × ByteArray × ByteArray × Unit)) (x1 : ByteArray) : runF tab ext9 false 104 [] 2000 [] tys9 Try.f9.results [false, false, false, false, false, false, false, false, true] [.code b9] (entE 0 0 sig9 (x0, x1, ())) (entL sig9 (x0, x1, ())) = some ([Dyn.mk Ty.bool Bool.false], [], [Decidable.decide ((↑(ByteArray.size x1) : Int) > 1048576) = Bool.false, P34 x0 1048576, Decidable.decide (g34_0 x0 1048576 < 0) = Bool.false, P36 x0, True, P36 x0, True, True, (!g28_0 (g46_0 (g36_0 x0) x1) (g45_0 (g36_0 x0) x1)) = Bool.false, (g46_1 (g36_0 x0) x1 != g45_1 (g36_0 x0) x1) = Bool.false, P36 x0, True, (!g38_0 (g36_0 x0) (g36_0 x0)) = Bool.false, P47 (g36_0 x0) 1, List.length (u47_0 (g36_0 x0) 1) = List.length (g36_0 x0), Decidable.decide (g47_0 (g36_0 x0) 1 < 0) = Bool.false, True, (!g28_0 (g46_0 (g36_0 x0) x1) (g45_0 (g36_0 x0) x1)) = Bool.false, (g46_1 (g36_0 x0) x1 != g45_1 (g36_0 x0) x1) = Bool.false, P29 (g46_0 (g36_0 x0) x1) 1, List.length (u29_0 (g46_0 (g36_0 x0) x1) 1) = List.length (g46_0 (g36_0 x0) x1), P42 (u29_0 (g46_0 (g36_0 x0) x1) 1) 1, Decidable.decide (g42_0 (u29_0 (g46_0 (g36_0 x0) x1) 1) 1 < 0) = Bool.true]) := by kernel_rfl
theorem p9_7 (x0 : List (ByteArray × ByteArray × ByteArray × Unit)) (x1 : ByteArray) : runF tab ext9 false 104 [] 2000 [] tys9 Try.f9.results [false, false, false, false, false, false, false, false, false, true] [.code b9] (entE 0 0 sig9 (x0, x1, ())) (entL sig9 (x0, x1, ())) = some ([Dyn.mk Ty.bool Bool.false], [], [Decidable.decide ((↑(ByteArray.size x1) : Int) > 1048576) = Bool.false, P34 x0 1048576, Decidable.decide (g34_0 x0 1048576 < 0) = Bool.false, P36 x0, True, P36 x0, True, True, (!g28_0 (g46_0 (g36_0 x0) x1) (g45_0 (g36_0 x0) x1)) = Bool.false, (g46_1 (g36_0 x0) x1 != g45_1 (g36_0 x0) x1) = Bool.false, P36 x0, True, (!g38_0 (g36_0 x0) (g36_0 x0)) = Bool.false, P47 (g36_0 x0) 1, List.length (u47_0 (g36_0 x0) 1) = List.length (g36_0 x0), Decidable.decide (g47_0 (g36_0 x0) 1 < 0) = Bool.false, True, (!g28_0 (g46_0 (g36_0 x0) x1) (g45_0 (g36_0 x0) x1)) = Bool.false, (g46_1 (g36_0 x0) x1 != g45_1 (g36_0 x0) x1) = Bool.false, P29 (g46_0 (g36_0 x0) x1) 1, List.length (u29_0 (g46_0 (g36_0 x0) x1) 1) = List.length (g46_0 (g36_0 x0) x1), P42 (u29_0 (g46_0 (g36_0 x0) x1) 1) 1, Decidable.decide (g42_0 (u29_0 (g46_0 (g36_0 x0) x1) 1) 1 < 0) = Bool.false, (g42_0 (u29_0 (g46_0 (g36_0 x0) x1) 1) 1 != g29_0 (g46_0 (g36_0 x0) x1) 1) = Bool.true]) := by kernel_rfl
theorem p9_8 (x0 : List (ByteArray × ByteArray × ByteArray × Unit)) (x1 : ByteArray) : runF tab ext9 false 104 [] 2000 [] tys9 Try.f9.results [false, false, false, false, false, false, false, false, false, false, false, false, false, false] [.code b9] (entE 0 0 sig9 (x0, x1, ())) (entL sig9 (x0, x1, ())) = some ([Dyn.mk Ty.bool Bool.true], [], [Decidable.decide ((↑(ByteArray.size x1) : Int) > 1048576) = Bool.false, P34 x0 1048576, Decidable.decide (g34_0 x0 1048576 < 0) = Bool.false, P36 x0, True, P36 x0, True, True, (!g28_0 (g46_0 (g36_0 x0) x1) (g45_0 (g36_0 x0) x1)) = Bool.false, (g46_1 (g36_0 x0) x1 != g45_1 (g36_0 x0) x1) = Bool.false, P36 x0, True, (!g38_0 (g36_0 x0) (g36_0 x0)) = Bool.false, P47 (g36_0 x0) 1, List.length (u47_0 (g36_0 x0) 1) = List.length (g36_0 x0), Decidable.decide (g47_0 (g36_0 x0) 1 < 0) = Bool.false, True, (!g28_0 (g46_0 (g36_0 x0) x1) (g45_0 (g36_0 x0) x1)) = Bool.false, (g46_1 (g36_0 x0) x1 != g45_1 (g36_0 x0) x1) = Bool.false, P29 (g46_0 (g36_0 x0) x1) 1, List.length (u29_0 (g46_0 (g36_0 x0) x1) 1) = List.length (g46_0 (g36_0 x0) x1), P42 (u29_0 (g46_0 (g36_0 x0) x1) 1) 1, Decidable.decide (g42_0 (u29_0 (g46_0 (g36_0 x0) x1) 1) 1 < 0) = Bool.false, (g42_0 (u29_0 (g46_0 (g36_0 x0) x1) 1) 1 != g29_0 (g46_0 (g36_0 x0) x1) 1) = Bool.false, P36 x0, True, True, (!g28_0 (g46_0 (g36_0 x0) x1) (g45_0 (g36_0 x0) x1)) = Bool.false, (g46_1 (g36_0 x0) x1 != g45_1 (g36_0 x0) x1) = Bool.false, P42 (u29_0 (g46_0 (g36_0 x0) x1) 1) 1, Decidable.decide (g42_0 (u29_0 (g46_0 (g36_0 x0) x1) 1) 1 < 0) = Bool.false, (g42_0 (u29_0 (g46_0 (g36_0 x0) x1) 1) 1 != g29_0 (g46_0 (g36_0 x0) x1) 1) = Bool.false]) := by kernel_rfl
theorem at9 (x0 : List (ByteArray × ByteArray × ByteArray × Unit)) (x1 : ByteArray) (h : P9 x0 x1) (w0 : World) (O : List Nat) (q : Nat → Value) : AtV Try.prog 9 (PostR [⟨Ty.bool, g9_0 x0 x1⟩] [] [] q w0 O) 104 w0 O q [] [.code b9] (entE 0 0 sig9 (x0, x1, ())) (entL sig9 (x0, x1, ())) := by
  unfold P9 at h
  unfold g9_0
  by_cases b0 : (Decidable.decide ((↑(ByteArray.size x1) : Int) > 1048576)) = true
  · try simp only [if_pos b0] at h ⊢
    exact AtV.fin Try.func9 tabOk ext9Ok mixed (p9_0 x0 x1) ⟨b0, trivial⟩
  · try simp only [if_neg b0] at h ⊢
    replace b0 := Bool.eq_false_iff.2 b0
    obtain ⟨s0, h⟩ := h
    by_cases b1 : (Decidable.decide (g34_0 x0 1048576 < 0)) = true
    · try simp only [if_pos b1] at h ⊢
      exact AtV.fin Try.func9 tabOk ext9Ok mixed (p9_1 x0 x1) ⟨b0, s0, b1, trivial⟩
    · try simp only [if_neg b1] at h ⊢
      replace b1 := Bool.eq_false_iff.2 b1
      obtain ⟨s1, h⟩ := h
      obtain ⟨s2, h⟩ := h
      by_cases b2 : (!g28_0 (g46_0 (g36_0 x0) x1) (g45_0 (g36_0 x0) x1)) = true
      · try simp only [if_pos b2] at h ⊢
        exact AtV.fin Try.func9 tabOk ext9Ok mixed (p9_2 x0 x1) ⟨b0, s0, b1, s1, trivial, s2, trivial, trivial, b2, rfl, trivial⟩
      · try simp only [if_neg b2] at h ⊢
        replace b2 := Bool.eq_false_iff.2 b2
        by_cases b3 : (g46_1 (g36_0 x0) x1 != g45_1 (g36_0 x0) x1) = true
        · try simp only [if_pos b3] at h ⊢
          exact AtV.fin Try.func9 tabOk ext9Ok mixed (p9_3 x0 x1) ⟨b0, s0, b1, s1, trivial, s2, trivial, trivial, b2, b3, trivial⟩
        · try simp only [if_neg b3] at h ⊢
          replace b3 := Bool.eq_false_iff.2 b3
          obtain ⟨s3, h⟩ := h
          by_cases b4 : (!g38_0 (g36_0 x0) (g36_0 x0)) = true
          · try simp only [if_pos b4] at h ⊢
            exact AtV.fin Try.func9 tabOk ext9Ok mixed (p9_4 x0 x1) ⟨b0, s0, b1, s1, trivial, s2, trivial, trivial, b2, b3, s3, trivial, b4, trivial⟩
          · try simp only [if_neg b4] at h ⊢
            replace b4 := Bool.eq_false_iff.2 b4
            obtain ⟨s4, s5, h⟩ := h
            by_cases b5 : (Decidable.decide (g47_0 (g36_0 x0) 1 < 0)) = true
            · try simp only [if_pos b5] at h ⊢
              exact AtV.fin Try.func9 tabOk ext9Ok mixed (p9_5 x0 x1) ⟨b0, s0, b1, s1, trivial, s2, trivial, trivial, b2, b3, s3, trivial, b4, s4, s5, b5, rfl, rfl, trivial⟩
            · try simp only [if_neg b5] at h ⊢
              replace b5 := Bool.eq_false_iff.2 b5
              obtain ⟨s6, s7, h⟩ := h
              obtain ⟨s8, h⟩ := h
              by_cases b6 : (Decidable.decide (g42_0 (u29_0 (g46_0 (g36_0 x0) x1) 1) 1 < 0)) = true
              · try simp only [if_pos b6] at h ⊢
                exact AtV.fin Try.func9 tabOk ext9Ok mixed (p9_6 x0 x1) ⟨b0, s0, b1, s1, trivial, s2, trivial, trivial, b2, b3, s3, trivial, b4, s4, s5, b5, trivial, b2, b3, s6, s7, s8, b6, trivial⟩
              · try simp only [if_neg b6] at h ⊢
                replace b6 := Bool.eq_false_iff.2 b6
                by_cases b7 : (g42_0 (u29_0 (g46_0 (g36_0 x0) x1) 1) 1 != g29_0 (g46_0 (g36_0 x0) x1) 1) = true
                · try simp only [if_pos b7] at h ⊢
                  exact AtV.fin Try.func9 tabOk ext9Ok mixed (p9_7 x0 x1) ⟨b0, s0, b1, s1, trivial, s2, trivial, trivial, b2, b3, s3, trivial, b4, s4, s5, b5, trivial, b2, b3, s6, s7, s8, b6, b7, trivial⟩
                · try simp only [if_neg b7] at h ⊢
                  replace b7 := Bool.eq_false_iff.2 b7
                  obtain ⟨s9, h⟩ := h
                  obtain ⟨s10, h⟩ := h
                  exact AtV.fin Try.func9 tabOk ext9Ok mixed (p9_8 x0 x1) ⟨b0, s0, b1, s1, trivial, s2, trivial, trivial, b2, b3, s3, trivial, b4, s4, s5, b5, trivial, b2, b3, s6, s7, s8, b6, b7, s9, trivial, trivial, b2, b3, s10, b6, b7, trivial⟩

def S9 : Am.Spec := { sig := sig9, pre := fun ⟨x0, x1, _⟩ => P9 x0 x1, res := fun ⟨x0, x1, _⟩ => [⟨Ty.bool, g9_0 x0 x1⟩] }
theorem con9 : Contract Try.prog 9 S9 := contract_of Try.func9 hb9 (Nat.le_of_ble_eq_true (by kernel_rfl)) (fun ⟨x0, x1, _⟩ h _ w0 O q => at9 x0 x1 h w0 O q)


end Go.Proofs.Ytjkeinpcphkfbaa

/- A law that says how functions of the program and of the specification hang together. -/
set_option linter.unusedVariables false
set_option linter.unusedSimpArgs false
set_option maxRecDepth 100000
namespace Go.Proofs.Ytjkeinpcphkfbaa
open Go Go.Am Go.Proofs

theorem name_eq (s : ByteArray) : g116_0 s = g131_0 s := by
  have hs : ∀ c, g153_0 c = (decide (97 ≤ c) && decide (c ≤ 122)) := fun c => by
    unfold g153_0
    by_cases h1 : (97 : Int) ≤ c <;> simp [h1]
  have hd : ∀ c, g154_0 c = (decide (48 ≤ c) && decide (c ≤ 57)) := fun c => by
    unfold g154_0
    by_cases h1 : (48 : Int) ≤ c <;> simp [h1]
  unfold g116_0 g131_0
  have hl := bytesOf_length s
  by_cases h1 : 1 ≤ s.size
  · cases hb : bytesOf s with
    | nil => rw [hb] at hl; simp at hl; omega
    | cons c r =>
      have hr : allI ok116 1 r = r.all fun b => g153_0 b || g154_0 b := by
        rw [← allI_plain (fun b => g153_0 b || g154_0 b) r 1]
        refine allI_congr r 1 fun j x hj => ?_
        have : (j == 0) = false := by simp; omega
        simp only [ok116, this, hs, hd, Bool.not_false, Bool.true_and]
      have h0 : ok116 0 c = g153_0 c := by simp [ok116, hs]
      simp only [allI, hr, h0, List.all_cons, List.getD_cons_zero]
      cases g153_0 c <;> simp
  · simp [h1]

theorem contains_nl (s : ByteArray) : (!g82_0 s (ByteArray.mk #[10])) = (bytesOf s).all fun b => !(b == 10) := by
  show (!s.data.toList.contains 10) = ((s.data.toList.map fun b => (b.toNat : Int)).all fun b => !(b == 10))
  induction s.data.toList with
  | nil => rfl
  | cons c r ih =>
    rw [List.contains_cons, Bool.not_or, ih, List.map_cons, List.all_cons]
    congr 2
    by_cases h : c = 10
    · subst h; rfl
    · have h1 : ((10 : UInt8) == c) = false := by simp; exact fun e => h e.symm
      have h2 : ((c.toNat : Int) == 10) = false := by
        rw [beq_eq_false_iff_ne]
        intro e
        exact h (UInt8.toNat_inj.1 (by show c.toNat = 10; omega))
      rw [h1, h2]

theorem block_eq (x : ByteArray × ByteArray × ByteArray × Unit) : g84_0 x = g105_0 x := by
  obtain ⟨a, b, t, u⟩ := x
  unfold g84_0 g105_0
  simp only [name_eq, ← contains_nl]
  have hc : decide ((t.size : Int) ≤ 400) = decide (t.size ≤ 400) := by
    congr 1; exact propext ⟨fun h => by omega, fun h => by omega⟩
  rw [hc]
  cases g131_0 a <;> cases g131_0 b <;> cases decide (t.size ≤ 400) <;> cases g82_0 t (ByteArray.mk #[10]) <;> rfl

end Go.Proofs.Ytjkeinpcphkfbaa

/- A law that says how functions of the program and of the specification hang together. -/
set_option linter.unusedVariables false
set_option linter.unusedSimpArgs false
set_option maxRecDepth 100000
namespace Go.Proofs.Ytjkeinpcphkfbaa
open Go Go.Am Go.Proofs

theorem nan (s : ByteArray) : g136_0 s = false := by simp [g136_0]

theorem cmp_str (a b : ByteArray) : g118_0 a b = if Op.bytesLess (ByteArray.toList a) (ByteArray.toList b) = true then -1 else if (ByteArray.toList a == ByteArray.toList b) = true then 0 else 1 := by
  unfold g118_0
  simp only [nan, Bool.false_eq_true, if_false]
  cases Op.bytesLess (ByteArray.toList a) (ByteArray.toList b) <;> cases (ByteArray.toList a == ByteArray.toList b) <;> rfl

theorem before_cmp (a b : ByteArray × ByteArray × ByteArray × Unit) : (!decide (g85_0 a b ≥ 0)) = g115_0 a b := by
  unfold g85_0 g115_0
  simp only [g117_0, cmp_str]
  cases Op.bytesLess (ByteArray.toList a.1) (ByteArray.toList b.1) <;> cases (ByteArray.toList a.1 == ByteArray.toList b.1) <;> cases Op.bytesLess (ByteArray.toList a.2.1) (ByteArray.toList b.2.1) <;> cases (ByteArray.toList a.2.1 == ByteArray.toList b.2.1) <;> decide

theorem blocks_eq (x : List (ByteArray × ByteArray × ByteArray × Unit)) : g37_0 x = g83_0 x := by
  unfold g37_0 g83_0
  congr 1
  refine allI_congr x 0 fun j y _ => ?_
  unfold ok37 ok83
  rw [block_eq, before_cmp]

end Go.Proofs.Ytjkeinpcphkfbaa

/- A law that says how functions of the program and of the specification hang together. -/
set_option linter.unusedVariables false
set_option linter.unusedSimpArgs false
set_option maxRecDepth 100000
namespace Go.Proofs.Ytjkeinpcphkfbaa
open Go Go.Am Go.Proofs

theorem ofKind_eq (x : List (ByteArray × ByteArray × ByteArray × Unit)) (k : ByteArray) : g46_0 x k = g45_0 x k ∧ g46_1 x k = g45_1 x k := by
  unfold g46_0 g45_0 g46_1 g45_1
  rw [blocks_eq]
  exact ⟨rfl, rfl⟩

theorem ofKind_len (x : List (ByteArray × ByteArray × ByteArray × Unit)) (k : ByteArray) : (g45_0 x k).length ≤ x.length := by
  unfold g45_0 names45
  split
  · rw [List.length_map]
    exact List.length_filter_le _ _
  · simp

end Go.Proofs.Ytjkeinpcphkfbaa

/- A law that says how functions of the program and of the specification hang together. -/
set_option linter.unusedVariables false
set_option linter.unusedSimpArgs false
set_option maxRecDepth 100000
namespace Go.Proofs.Ytjkeinpcphkfbaa
open Go Go.Am Go.Proofs

theorem marked_str (xs : List ByteArray) (h : xs.length ≤ 1048576) : P29 xs 1 ∧ (u29_0 xs 1).length = xs.length ∧ P42 (u29_0 xs 1) 1 ∧
    g42_0 (u29_0 xs 1) 1 = g29_0 xs 1 ∧ ¬ g29_0 xs 1 < 0 := by
  have hl : (u29_0 xs 1).length = xs.length := by rw [u29_0, M29_len]
  refine ⟨⟨by omega, by omega⟩, hl, ⟨⟨by omega, by rw [hl]; omega⟩, fun i hi => ?_⟩, ?_, ?_⟩
  · rw [hl] at hi
    rw [getD_lt _ _ _ (by rw [hl]; exact hi)]
    simp [u29_0, M29]
  · unfold g42_0 g29_0
    rw [hl]
  · unfold g29_0
    omega

end Go.Proofs.Ytjkeinpcphkfbaa

/- A law that says how functions of the program and of the specification hang together. -/
set_option linter.unusedVariables false
set_option linter.unusedSimpArgs false
set_option maxRecDepth 100000
namespace Go.Proofs.Ytjkeinpcphkfbaa
open Go Go.Am Go.Proofs

theorem marked_blk (xs : List (ByteArray × ByteArray × ByteArray × Unit)) (h : xs.length ≤ 1048576) : P47 xs 1 ∧ (u47_0 xs 1).length = xs.length ∧ ¬ g47_0 xs 1 < 0 := by
  have hl : (u47_0 xs 1).length = xs.length := by rw [u47_0, M47_len]
  refine ⟨⟨by omega, by omega⟩, hl, ?_⟩
  unfold g47_0
  omega

end Go.Proofs.Ytjkeinpcphkfbaa

/- The plain law of FnExactBlocksOfKind. -/
set_option linter.unusedVariables false
set_option linter.unusedSimpArgs false
set_option maxRecDepth 100000
namespace Go.Proofs.Ytjkeinpcphkfbaa
open Go Go.Am Go.Proofs

theorem law9 (x : List (ByteArray × ByteArray × ByteArray × Unit)) (k : ByteArray) (hw : Wf (.sl (.cons .str (.cons .str (.cons .str .unit)))) x) (hk : Wf .str k) : P9 x k ∧ g9_0 x k = true := by
  unfold P9 g9_0
  by_cases h0 : (k.size : Int) > 1048576
  · simp only [h0, decide_true, if_true, and_self]
  by_cases h : g34_0 x 1048576 < 0
  · simp only [h0, h, decide_true, decide_false, Bool.false_eq_true, if_false, if_true, and_true]
    exact (show (0 : Int) ≤ 1048576 from by decide)
  · have hs := g34_le x 1048576 (by decide) (by decide) hw h
    have hp : P36 x := by
      show 48 * (x.length : Int) ≤ 281474976710656
      omega
    have hz : P34 x 1048576 := (show (0 : Int) ≤ 1048576 from by decide)
    have hl := ofKind_len x k
    obtain ⟨e0, e1⟩ := ofKind_eq x k
    obtain ⟨b1, b2, b3⟩ := marked_blk x (by omega)
    obtain ⟨m1, m2, m3, m4, m5⟩ := marked_str (g45_0 x k) (by omega)
    simp only [h0, h, decide_false, Bool.false_eq_true, if_false, g36_0, e0, e1, g28_0, g38_0, decide_true, Bool.not_true, bne_self_eq_false, b1, b2, b3, m1, m2, m3, m4, m5, hp, hz, true_and, and_self]

end Go.Proofs.Ytjkeinpcphkfbaa
