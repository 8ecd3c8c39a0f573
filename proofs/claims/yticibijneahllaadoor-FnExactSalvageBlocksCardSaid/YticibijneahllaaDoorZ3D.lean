/- Several texts in one: the functions that this law reaches, and their laws. -/
import Derived.Test.YticibijneahllaaDoorZ3A
import Derived.Test.YticibijneahllaaDoorZ3B
import Derived.Test.YticibijneahllaaDoorZ3C
import Derived.Lib.SliceRun
import Derived.Laws.AppendOwn
import Derived.WalkKit
import Derived.Deep.LoopGhost
import Derived.Lib.Walk
import Derived.Shelf.RegionOpenPlain
import Derived.Deep.RegionLaw
import Derived.Deep.AppendSrc
import Derived.Lib.JoinLaws
import Derived.Lib.AppendZeros
import Derived.Lib.AppendZerosOnto
import Derived.Lib.Overlaps
import Derived.Laws.Externs
import Derived.Laws.IdiomCopy
import Derived.Lib.TrimByte
import Derived.Lib.IndexAny
import Derived.Lib.IndexMore
import Derived.Lib.ItoaNum

/- Function 62 (cmp.Compare[string]): its runs between cut points. Written by a program of this repo (gen). -/
set_option linter.unusedVariables false
set_option linter.unusedSimpArgs false
set_option maxRecDepth 100000
namespace Go.Proofs.YticibijneahllaaDoor
open Go Go.Am Go.Proofs
def ext62 : Ext := [(79, S79)]
theorem call62_79 : Callable Tryd.prog 79 := ⟨Tryd.f79, Tryd.func79, by kernel_rfl, by kernel_rfl⟩
theorem ext62Ok : ExtOk Tryd.prog ext62 := ⟨⟨call62_79, con79⟩, trivial⟩
/-! Function 62. -/
noncomputable def b62 : Code := bodyOf Tryd.f62
theorem hb62 : Tryd.f62.body = some b62 := by kernel_rfl
def sig62 : List AT := [AT.v (Ty.str), AT.v (Ty.str)]
def tys62 : List Ty := [Ty.int IntKind.i64]
def P62 (x0 : ByteArray) (x1 : ByteArray) : Prop := True
def g62_0 (x0 : ByteArray) (x1 : ByteArray) : Int := (if (g79_0 x0) = true then (if (g79_0 x1) = true then 0 else -1) else (if (g79_0 x1) = true then 1 else (if (Op.bytesLess (ByteArray.toList x0) (ByteArray.toList x1)) = true then -1 else (if (!(Op.bytesLess (ByteArray.toList x0) (ByteArray.toList x1) || ByteArray.toList x0 == ByteArray.toList x1)) = true then 1 else 0))))
theorem p62_0 (x0 : ByteArray) (x1 : ByteArray) : runF tab ext62 false 20 [] 2000 [] tys62 Tryd.f62.results [true, true] [.code b62] (entE 0 0 sig62 (x0, x1, ())) (entL sig62 (x0, x1, ())) = some ([Dyn.mk (Ty.int IntKind.i64) 0], [], [True, True, g79_0 x0 = Bool.true, g79_0 x1 = Bool.true]) := by kernel_rfl
theorem p62_1 (x0 : ByteArray) (x1 : ByteArray) : runF tab ext62 false 20 [] 2000 [] tys62 Tryd.f62.results [true, false] [.code b62] (entE 0 0 sig62 (x0, x1, ())) (entL sig62 (x0, x1, ())) = some ([Dyn.mk (Ty.int IntKind.i64) (-1)], [], [True, True, g79_0 x0 = Bool.true, g79_0 x1 = Bool.false]) := by kernel_rfl
theorem p62_2 (x0 : ByteArray) (x1 : ByteArray) : runF tab ext62 false 20 [] 2000 [] tys62 Tryd.f62.results [false, true] [.code b62] (entE 0 0 sig62 (x0, x1, ())) (entL sig62 (x0, x1, ())) = some ([Dyn.mk (Ty.int IntKind.i64) 1], [], [True, True, g79_0 x0 = Bool.false, g79_0 x1 = Bool.true]) := by kernel_rfl
theorem p62_3 (x0 : ByteArray) (x1 : ByteArray) : runF tab ext62 false 20 [] 2000 [] tys62 Tryd.f62.results [false, false, true] [.code b62] (entE 0 0 sig62 (x0, x1, ())) (entL sig62 (x0, x1, ())) = some ([Dyn.mk (Ty.int IntKind.i64) (-1)], [], [True, True, g79_0 x0 = Bool.false, g79_0 x1 = Bool.false, Op.bytesLess (ByteArray.toList x0) (ByteArray.toList x1) = Bool.true]) := by kernel_rfl
theorem p62_4 (x0 : ByteArray) (x1 : ByteArray) : runF tab ext62 false 20 [] 2000 [] tys62 Tryd.f62.results [false, false, false, true] [.code b62] (entE 0 0 sig62 (x0, x1, ())) (entL sig62 (x0, x1, ())) = some ([Dyn.mk (Ty.int IntKind.i64) 1], [], [True, True, g79_0 x0 = Bool.false, g79_0 x1 = Bool.false, Op.bytesLess (ByteArray.toList x0) (ByteArray.toList x1) = Bool.false, (!(Op.bytesLess (ByteArray.toList x0) (ByteArray.toList x1) || ByteArray.toList x0 == ByteArray.toList x1)) = Bool.true]) := by kernel_rfl
theorem p62_5 (x0 : ByteArray) (x1 : ByteArray) : runF tab ext62 false 20 [] 2000 [] tys62 Tryd.f62.results [false, false, false, false] [.code b62] (entE 0 0 sig62 (x0, x1, ())) (entL sig62 (x0, x1, ())) = some ([Dyn.mk (Ty.int IntKind.i64) 0], [], [True, True, g79_0 x0 = Bool.false, g79_0 x1 = Bool.false, Op.bytesLess (ByteArray.toList x0) (ByteArray.toList x1) = Bool.false, (!(Op.bytesLess (ByteArray.toList x0) (ByteArray.toList x1) || ByteArray.toList x0 == ByteArray.toList x1)) = Bool.false]) := by kernel_rfl
theorem at62 (x0 : ByteArray) (x1 : ByteArray) (h : P62 x0 x1) (w0 : World) (O : List Nat) (q : Nat → Value) : AtV Tryd.prog 62 (PostR [⟨Ty.int IntKind.i64, g62_0 x0 x1⟩] [] [] q w0 O) 20 w0 O q [] [.code b62] (entE 0 0 sig62 (x0, x1, ())) (entL sig62 (x0, x1, ())) := by
  unfold P62 at h
  unfold g62_0
  by_cases b0 : (g79_0 x0) = true
  · try simp only [if_pos b0] at h ⊢
    by_cases b1 : (g79_0 x1) = true
    · try simp only [if_pos b1] at h ⊢
      exact AtV.fin Tryd.func62 tabOk ext62Ok mixed (p62_0 x0 x1) ⟨trivial, trivial, b0, b1, trivial⟩
    · try simp only [if_neg b1] at h ⊢
      replace b1 := Bool.eq_false_iff.2 b1
      exact AtV.fin Tryd.func62 tabOk ext62Ok mixed (p62_1 x0 x1) ⟨trivial, trivial, b0, b1, trivial⟩
  · try simp only [if_neg b0] at h ⊢
    replace b0 := Bool.eq_false_iff.2 b0
    by_cases b1 : (g79_0 x1) = true
    · try simp only [if_pos b1] at h ⊢
      exact AtV.fin Tryd.func62 tabOk ext62Ok mixed (p62_2 x0 x1) ⟨trivial, trivial, b0, b1, trivial⟩
    · try simp only [if_neg b1] at h ⊢
      replace b1 := Bool.eq_false_iff.2 b1
      by_cases b2 : (Op.bytesLess (ByteArray.toList x0) (ByteArray.toList x1)) = true
      · try simp only [if_pos b2] at h ⊢
        exact AtV.fin Tryd.func62 tabOk ext62Ok mixed (p62_3 x0 x1) ⟨trivial, trivial, b0, b1, b2, trivial⟩
      · try simp only [if_neg b2] at h ⊢
        replace b2 := Bool.eq_false_iff.2 b2
        by_cases b3 : (!(Op.bytesLess (ByteArray.toList x0) (ByteArray.toList x1) || ByteArray.toList x0 == ByteArray.toList x1)) = true
        · try simp only [if_pos b3] at h ⊢
          exact AtV.fin Tryd.func62 tabOk ext62Ok mixed (p62_4 x0 x1) ⟨trivial, trivial, b0, b1, b2, b3, trivial⟩
        · try simp only [if_neg b3] at h ⊢
          replace b3 := Bool.eq_false_iff.2 b3
          exact AtV.fin Tryd.func62 tabOk ext62Ok mixed (p62_5 x0 x1) ⟨trivial, trivial, b0, b1, b2, b3, trivial⟩

def S62 : Am.Spec := { sig := sig62, pre := fun ⟨x0, x1, _⟩ => P62 x0 x1, res := fun ⟨x0, x1, _⟩ => [⟨Ty.int IntKind.i64, g62_0 x0 x1⟩] }
theorem con62 : Contract Tryd.prog 62 S62 := contract_of Tryd.func62 hb62 (Nat.le_of_ble_eq_true (by kernel_rfl)) (fun ⟨x0, x1, _⟩ h _ w0 O q => at62 x0 x1 h w0 O q)


end Go.Proofs.YticibijneahllaaDoor

/- Function 61 (cmp.Or[int]): its runs between cut points. Written by a program of this repo (gen). -/
set_option linter.unusedVariables false
set_option linter.unusedSimpArgs false
set_option maxRecDepth 100000
namespace Go.Proofs.YticibijneahllaaDoor
open Go Go.Am Go.Proofs
def ext61 : Ext := []
theorem ext61Ok : ExtOk Tryd.prog ext61 := trivial
/-! Function 61. -/
noncomputable def b61 : Code := bodyOf Tryd.f61
theorem hb61 : Tryd.f61.body = some b61 := by kernel_rfl
def sig61 : List AT := [AT.v (Ty.sl (Ty.int IntKind.i64))]
def tys61 : List Ty := [Ty.int IntKind.i64]
def E61_3 (v8 : Int) (x0 : List Int) : Env := [(3, PV.a (Atom.val (Value.int IntKind.i64 0))), (6, PV.a (Atom.sl (Ty.int IntKind.i64) x0)), (7, PV.a (Atom.val (Value.int IntKind.i64 (↑(List.length x0) : Int)))), (8, PV.a (Atom.val (Value.int IntKind.i64 v8)))]
def L61_3 (v8 : Int) (x0 : List Int) : Heap := []
mutual
def R61 : Nat → List Int → List Dyn → Prop
  | 0, _, _ => False
  | n + 1, x0, ds => (R61_3 n (0) (x0) ds)
def R61_3 : Nat → Int → List Int → List Dyn → Prop
  | 0, _, _, _ => False
  | n + 1, v8, x0, ds => (if (Decidable.decide (v8 < (↑(List.length x0) : Int))) = true then ((0 ≤ v8) ∧ (v8 < (↑(List.length x0) : Int)) ∧ (if (List.getD x0 (Int.toNat v8) 0 != 0) = true then (ds = [Dyn.mk (Ty.int IntKind.i64) (List.getD x0 (Int.toNat v8) 0)]) else ((InR IntKind.i64 (v8 + 1)) ∧ (R61_3 n (v8 + 1) (x0) ds)))) else (ds = [Dyn.mk (Ty.int IntKind.i64) 0]))
end
theorem p61_0 (x0 : List Int) : Am.runN tab ext61 false 18 [] 2000 [] [] [3, 6, 7, 8] [] [] [.code b61] (entE 0 0 sig61 (x0, ())) (entL sig61 (x0, ())) = some (cutAt b61 3, E61_3 (0) (x0), L61_3 (0) (x0), []) := by kernel_rfl
theorem p61_1 (v8 : Int) (x0 : List Int) : runF tab ext61 false 18 [] 2000 [] tys61 Tryd.f61.results [true, true] (cutAt b61 3) (E61_3 v8 x0) (L61_3 v8 x0) = some ([Dyn.mk (Ty.int IntKind.i64) (List.getD x0 (Int.toNat v8) 0)], [], [Decidable.decide (v8 < (↑(List.length x0) : Int)) = Bool.true, 0 ≤ v8, v8 < (↑(List.length x0) : Int), (List.getD x0 (Int.toNat v8) 0 != 0) = Bool.true]) := by kernel_rfl
theorem p61_2 (v8 : Int) (x0 : List Int) : Am.runN tab ext61 false 18 [] 2000 [] [] [3, 6, 7, 8] [] [true, false] (cutAt b61 3) (E61_3 v8 x0) (L61_3 v8 x0) = some (cutAt b61 3, E61_3 (v8 + 1) (x0), L61_3 (v8 + 1) (x0), [Decidable.decide (v8 < (↑(List.length x0) : Int)) = Bool.true, 0 ≤ v8, v8 < (↑(List.length x0) : Int), (List.getD x0 (Int.toNat v8) 0 != 0) = Bool.false, InR IntKind.i64 (v8 + 1)]) := by kernel_rfl
theorem p61_3 (v8 : Int) (x0 : List Int) : runF tab ext61 false 18 [] 2000 [] tys61 Tryd.f61.results [false] (cutAt b61 3) (E61_3 v8 x0) (L61_3 v8 x0) = some ([Dyn.mk (Ty.int IntKind.i64) 0], [], [Decidable.decide (v8 < (↑(List.length x0) : Int)) = Bool.false]) := by kernel_rfl
theorem snd61 : ∀ n, (∀ (x0 : List Int) ds, R61 n x0 ds → ∀ w0 O q, AtV Tryd.prog 61 (PostR ds [] [] q w0 O) 18 w0 O q [] [.code b61] (entE 0 0 sig61 (x0, ())) (entL sig61 (x0, ()))) ∧ (∀ (v8 : Int) (x0 : List Int) ds, R61_3 n v8 x0 ds → ∀ w0 O q, AtV Tryd.prog 61 (PostR ds [] [] q w0 O) 18 w0 O q [] (cutAt b61 3) (E61_3 v8 x0) (L61_3 v8 x0)) := by
  intro n
  induction n with
  | zero => exact ⟨fun _ _ h => by simp only [R61] at h, fun _ _ _ h => by simp only [R61_3] at h⟩
  | succ n ih =>
  obtain ⟨ih, ih3⟩ := ih
  refine ⟨?_, ?_⟩
  · intro x0 ds h w0 O q
    rw [R61] at h
    exact AtV.runN tabOk ext61Ok mixed (p61_0 x0) trivial (ih3 _ _ _ h w0 O q)

  · intro v8 x0 ds h w0 O q
    rw [R61_3] at h
    by_cases b0 : (Decidable.decide (v8 < (↑(List.length x0) : Int))) = true
    · rw [if_pos b0] at h
      obtain ⟨s0, s1, h⟩ := h
      by_cases b1 : (List.getD x0 (Int.toNat v8) 0 != 0) = true
      · rw [if_pos b1] at h
        subst h
        exact AtV.fin Tryd.func61 tabOk ext61Ok mixed (p61_1 v8 x0) ⟨b0, s0, s1, b1, trivial⟩
      · rw [if_neg b1] at h
        replace b1 := Bool.eq_false_iff.2 b1
        obtain ⟨s2, h⟩ := h
        exact AtV.runN tabOk ext61Ok mixed (p61_2 v8 x0) ⟨b0, s0, s1, b1, s2, trivial⟩ (ih3 _ _ _ h w0 O q)
    · rw [if_neg b0] at h
      replace b0 := Bool.eq_false_iff.2 b0
      subst h
      exact AtV.fin Tryd.func61 tabOk ext61Ok mixed (p61_3 v8 x0) ⟨b0, trivial⟩



def g61_0 : List Int → Int
  | [] => 0
  | x :: r => if x != 0 then x else g61_0 r
def P61 (x0 : List Int) : Prop := True

theorem goL61 : ∀ (xs : List Int), goL (fun (_ : Unit) (x : Int) => if (x != 0) = true then Except.error [(⟨.int .i64, x⟩ : Dyn)] else .ok ()) (fun _ => [⟨.int .i64, (0 : Int)⟩]) () xs = [⟨.int .i64, g61_0 xs⟩]
  | [] => rfl
  | x :: r => by
    simp only [goL, g61_0]
    cases h : x != 0 with
    | true => simp
    | false => simpa using goL61 r

theorem top61 (x0 : List Int) (hm : x0.length ≤ maxLen) : R61 (x0.length + 1 + 1) x0 [⟨.int .i64, g61_0 x0⟩] := by
  rw [R61, ← goL61]
  refine loop_all x0 0 _ _ (fun _ _ => True) (fun n i _ ds => R61_3 n i x0 ds) trivial ?_ ?_
  · intro n b _
    show R61_3 (n + 1) x0.length x0 _
    rw [R61_3, if_neg (by simp)]
  · intro n i b hi _
    cases h : (x0.getD i 0 != 0) with
    | true =>
      show R61_3 (n + 1) (i : Int) x0 _
      rw [R61_3, if_pos (by simp; omega)]
      refine ⟨by omega, by omega, ?_⟩
      simp only [Int.toNat_natCast]
      rw [if_pos h] <;> trivial
    | false =>
      refine ⟨trivial, fun ds hr => ?_⟩
      rw [R61_3, if_pos (by simp; omega)]
      refine ⟨by omega, by omega, ?_⟩
      simp only [Int.toNat_natCast]
      rw [if_neg (by rw [h]; simp)]
      exact ⟨inR_up hm hi, hr⟩

def S61 : Am.Spec := { sig := sig61, pre := fun ⟨x0, _⟩ => P61 x0, res := fun ⟨x0, _⟩ => [⟨Ty.int .i64, g61_0 x0⟩] }
theorem con61 : Contract Tryd.prog 61 S61 := contract_of Tryd.func61 hb61 (Nat.le_of_ble_eq_true (by kernel_rfl)) (fun ⟨x0, _⟩ h hwf w0 O q =>
  (snd61 _).1 x0 _ (top61 x0 hwf.1.1) w0 O q)

end Go.Proofs.YticibijneahllaaDoor

/- Function 45 (impl.compareBlocks): its runs between cut points. Written by a program of this repo (gen). -/
set_option linter.unusedVariables false
set_option linter.unusedSimpArgs false
set_option maxRecDepth 100000
namespace Go.Proofs.YticibijneahllaaDoor
open Go Go.Am Go.Proofs
def ext45 : Ext := [(62, S62), (61, S61)]
theorem call45_62 : Callable Tryd.prog 62 := ⟨Tryd.f62, Tryd.func62, by kernel_rfl, by kernel_rfl⟩
theorem call45_61 : Callable Tryd.prog 61 := ⟨Tryd.f61, Tryd.func61, by kernel_rfl, by kernel_rfl⟩
theorem ext45Ok : ExtOk Tryd.prog ext45 := ⟨⟨call45_62, con62⟩, ⟨call45_61, con61⟩, trivial⟩
/-! Function 45. -/
noncomputable def b45 : Code := bodyOf Tryd.f45
theorem hb45 : Tryd.f45.body = some b45 := by kernel_rfl
def sig45 : List AT := [AT.v (Ty.cons Ty.str (Ty.cons Ty.str (Ty.cons Ty.str Ty.unit))), AT.v (Ty.cons Ty.str (Ty.cons Ty.str (Ty.cons Ty.str Ty.unit)))]
def tys45 : List Ty := [Ty.int IntKind.i64]
def P45 (x0 : ByteArray × ByteArray × ByteArray × Unit) (x1 : ByteArray × ByteArray × ByteArray × Unit) : Prop := True
def g45_0 (x0 : ByteArray × ByteArray × ByteArray × Unit) (x1 : ByteArray × ByteArray × ByteArray × Unit) : Int := g61_0 [g62_0 (Prod.fst x0) (Prod.fst x1), g62_0 (Prod.fst (Prod.snd x0)) (Prod.fst (Prod.snd x1))]
theorem p45_0 (x0 : ByteArray × ByteArray × ByteArray × Unit) (x1 : ByteArray × ByteArray × ByteArray × Unit) : runF tab ext45 false 17 [] 2000 [] tys45 Tryd.f45.results [] [.code b45] (entE 0 0 sig45 (x0, x1, ())) (entL sig45 (x0, x1, ())) = some ([Dyn.mk (Ty.int IntKind.i64) (g61_0 [g62_0 (Prod.fst x0) (Prod.fst x1), g62_0 (Prod.fst (Prod.snd x0)) (Prod.fst (Prod.snd x1))])], [], [True, True, True]) := by kernel_rfl
theorem at45 (x0 : ByteArray × ByteArray × ByteArray × Unit) (x1 : ByteArray × ByteArray × ByteArray × Unit) (h : P45 x0 x1) (w0 : World) (O : List Nat) (q : Nat → Value) : AtV Tryd.prog 45 (PostR [⟨Ty.int IntKind.i64, g45_0 x0 x1⟩] [] [] q w0 O) 17 w0 O q [] [.code b45] (entE 0 0 sig45 (x0, x1, ())) (entL sig45 (x0, x1, ())) := by
  unfold P45 at h
  unfold g45_0
  exact AtV.fin Tryd.func45 tabOk ext45Ok mixed (p45_0 x0 x1) ⟨trivial, trivial, trivial, trivial⟩

def S45 : Am.Spec := { sig := sig45, pre := fun ⟨x0, x1, _⟩ => P45 x0 x1, res := fun ⟨x0, x1, _⟩ => [⟨Ty.int IntKind.i64, g45_0 x0 x1⟩] }
theorem con45 : Contract Tryd.prog 45 S45 := contract_of Tryd.func45 hb45 (Nat.le_of_ble_eq_true (by kernel_rfl)) (fun ⟨x0, x1, _⟩ h _ w0 O q => at45 x0 x1 h w0 O q)


end Go.Proofs.YticibijneahllaaDoor

/- Function 29 (impl.ValidBlocks): its runs between cut points. Written by a program of this repo (gen). -/
set_option linter.unusedVariables false
set_option linter.unusedSimpArgs false
set_option maxRecDepth 100000
namespace Go.Proofs.YticibijneahllaaDoor
open Go Go.Am Go.Proofs
def ext29 : Ext := [(27, S27), (45, S45)]
theorem call29_27 : Callable Tryd.prog 27 := ⟨Tryd.f27, Tryd.func27, by kernel_rfl, by kernel_rfl⟩
theorem call29_45 : Callable Tryd.prog 45 := ⟨Tryd.f45, Tryd.func45, by kernel_rfl, by kernel_rfl⟩
theorem ext29Ok : ExtOk Tryd.prog ext29 := ⟨⟨call29_27, con27⟩, ⟨call29_45, con45⟩, trivial⟩
/-! Function 29. -/
noncomputable def b29 : Code := bodyOf Tryd.f29
theorem hb29 : Tryd.f29.body = some b29 := by kernel_rfl
def sig29 : List AT := [AT.v (Ty.sl (Ty.cons Ty.str (Ty.cons Ty.str (Ty.cons Ty.str Ty.unit))))]
def tys29 : List Ty := [Ty.bool]
def E29_2 (v7 : Int) (x0 : List (ByteArray × ByteArray × ByteArray × Unit)) : Env := [(0, PV.a (Atom.sl (Ty.cons Ty.str (Ty.cons Ty.str (Ty.cons Ty.str Ty.unit))) x0)), (5, PV.a (Atom.sl (Ty.cons Ty.str (Ty.cons Ty.str (Ty.cons Ty.str Ty.unit))) x0)), (6, PV.a (Atom.val (Value.int IntKind.i64 (↑(List.length x0) : Int)))), (7, PV.a (Atom.val (Value.int IntKind.i64 v7)))]
def L29_2 (v7 : Int) (x0 : List (ByteArray × ByteArray × ByteArray × Unit)) : Heap := []
mutual
def R29 : Nat → List (ByteArray × ByteArray × ByteArray × Unit) → List Dyn → Prop
  | 0, _, _ => False
  | n + 1, x0, ds => (R29_2 n (0) (x0) ds)
def R29_2 : Nat → Int → List (ByteArray × ByteArray × ByteArray × Unit) → List Dyn → Prop
  | 0, _, _, _ => False
  | n + 1, v7, x0, ds => (if (Decidable.decide (v7 < (↑(List.length x0) : Int))) = true then ((0 ≤ v7) ∧ (v7 < (↑(List.length x0) : Int)) ∧ ((P27 (List.getD x0 (Int.toNat v7) (ByteArray.empty, ByteArray.empty, ByteArray.empty, ()))) ∧ (if (!g27_0 (List.getD x0 (Int.toNat v7) (ByteArray.empty, ByteArray.empty, ByteArray.empty, ()))) = true then (ds = [Dyn.mk Ty.bool Bool.false]) else (if (Decidable.decide (v7 > 0)) = true then ((InR IntKind.i64 (v7 - 1)) ∧ ((0 ≤ v7 - 1) ∧ (v7 - 1 < (↑(List.length x0) : Int)) ∧ (if (Decidable.decide (g45_0 (List.getD x0 (Int.toNat (v7 - 1)) (ByteArray.empty, ByteArray.empty, ByteArray.empty, ())) (List.getD x0 (Int.toNat v7) (ByteArray.empty, ByteArray.empty, ByteArray.empty, ())) ≥ 0)) = true then (ds = [Dyn.mk Ty.bool Bool.false]) else ((InR IntKind.i64 (v7 + 1)) ∧ (R29_2 n (v7 + 1) (x0) ds))))) else ((InR IntKind.i64 (v7 + 1)) ∧ (R29_2 n (v7 + 1) (x0) ds)))))) else (ds = [Dyn.mk Ty.bool (Decidable.decide ((↑(List.length x0) : Int) ≤ 32))]))
end
theorem p29_0 (x0 : List (ByteArray × ByteArray × ByteArray × Unit)) : Am.runN tab ext29 false 33 [] 2000 [] [] [0, 5, 6, 7] [] [] [.code b29] (entE 0 0 sig29 (x0, ())) (entL sig29 (x0, ())) = some (cutAt b29 2, E29_2 (0) (x0), L29_2 (0) (x0), []) := by kernel_rfl
theorem p29_1 (v7 : Int) (x0 : List (ByteArray × ByteArray × ByteArray × Unit)) : runF tab ext29 false 33 [] 2000 [] tys29 Tryd.f29.results [true, true, true] (cutAt b29 2) (E29_2 v7 x0) (L29_2 v7 x0) = some ([Dyn.mk Ty.bool Bool.false], [], [Decidable.decide (v7 < (↑(List.length x0) : Int)) = Bool.true, 0 ≤ v7, v7 < (↑(List.length x0) : Int), P27 (List.getD x0 (Int.toNat v7) (ByteArray.empty, ByteArray.empty, ByteArray.empty, ())), (!g27_0 (List.getD x0 (Int.toNat v7) (ByteArray.empty, ByteArray.empty, ByteArray.empty, ()))) = Bool.true, Bool.true = Bool.true]) := by kernel_rfl
theorem p29_2 (v7 : Int) (x0 : List (ByteArray × ByteArray × ByteArray × Unit)) : runF tab ext29 false 33 [] 2000 [] tys29 Tryd.f29.results [true, false, true, true] (cutAt b29 2) (E29_2 v7 x0) (L29_2 v7 x0) = some ([Dyn.mk Ty.bool Bool.false], [], [Decidable.decide (v7 < (↑(List.length x0) : Int)) = Bool.true, 0 ≤ v7, v7 < (↑(List.length x0) : Int), P27 (List.getD x0 (Int.toNat v7) (ByteArray.empty, ByteArray.empty, ByteArray.empty, ())), (!g27_0 (List.getD x0 (Int.toNat v7) (ByteArray.empty, ByteArray.empty, ByteArray.empty, ()))) = Bool.false, Decidable.decide (v7 > 0) = Bool.true, InR IntKind.i64 (v7 - 1), 0 ≤ v7 - 1, v7 - 1 < (↑(List.length x0) : Int), True, Decidable.decide (g45_0 (List.getD x0 (Int.toNat (v7 - 1)) (ByteArray.empty, ByteArray.empty, ByteArray.empty, ())) (List.getD x0 (Int.toNat v7) (ByteArray.empty, ByteArray.empty, ByteArray.empty, ())) ≥ 0) = Bool.true]) := by kernel_rfl
theorem p29_3 (v7 : Int) (x0 : List (ByteArray × ByteArray × ByteArray × Unit)) : Am.runN tab ext29 false 33 [] 2000 [] [] [0, 5, 6, 7] [] [true, false, true, false] (cutAt b29 2) (E29_2 v7 x0) (L29_2 v7 x0) = some (cutAt b29 2, E29_2 (v7 + 1) (x0), L29_2 (v7 + 1) (x0), [Decidable.decide (v7 < (↑(List.length x0) : Int)) = Bool.true, 0 ≤ v7, v7 < (↑(List.length x0) : Int), P27 (List.getD x0 (Int.toNat v7) (ByteArray.empty, ByteArray.empty, ByteArray.empty, ())), (!g27_0 (List.getD x0 (Int.toNat v7) (ByteArray.empty, ByteArray.empty, ByteArray.empty, ()))) = Bool.false, Decidable.decide (v7 > 0) = Bool.true, InR IntKind.i64 (v7 - 1), 0 ≤ v7 - 1, v7 - 1 < (↑(List.length x0) : Int), True, Decidable.decide (g45_0 (List.getD x0 (Int.toNat (v7 - 1)) (ByteArray.empty, ByteArray.empty, ByteArray.empty, ())) (List.getD x0 (Int.toNat v7) (ByteArray.empty, ByteArray.empty, ByteArray.empty, ())) ≥ 0) = Bool.false, InR IntKind.i64 (v7 + 1)]) := by kernel_rfl
theorem p29_4 (v7 : Int) (x0 : List (ByteArray × ByteArray × ByteArray × Unit)) : Am.runN tab ext29 false 33 [] 2000 [] [] [0, 5, 6, 7] [] [true, false, false, false] (cutAt b29 2) (E29_2 v7 x0) (L29_2 v7 x0) = some (cutAt b29 2, E29_2 (v7 + 1) (x0), L29_2 (v7 + 1) (x0), [Decidable.decide (v7 < (↑(List.length x0) : Int)) = Bool.true, 0 ≤ v7, v7 < (↑(List.length x0) : Int), P27 (List.getD x0 (Int.toNat v7) (ByteArray.empty, ByteArray.empty, ByteArray.empty, ())), (!g27_0 (List.getD x0 (Int.toNat v7) (ByteArray.empty, ByteArray.empty, ByteArray.empty, ()))) = Bool.false, Decidable.decide (v7 > 0) = Bool.false, Bool.false = Bool.false, InR IntKind.i64 (v7 + 1)]) := by kernel_rfl
theorem p29_5 (v7 : Int) (x0 : List (ByteArray × ByteArray × ByteArray × Unit)) : runF tab ext29 false 33 [] 2000 [] tys29 Tryd.f29.results [false] (cutAt b29 2) (E29_2 v7 x0) (L29_2 v7 x0) = some ([Dyn.mk Ty.bool (Decidable.decide ((↑(List.length x0) : Int) ≤ 32))], [], [Decidable.decide (v7 < (↑(List.length x0) : Int)) = Bool.false]) := by kernel_rfl
theorem snd29 : ∀ n, (∀ (x0 : List (ByteArray × ByteArray × ByteArray × Unit)) ds, R29 n x0 ds → ∀ w0 O q, AtV Tryd.prog 29 (PostR ds [] [] q w0 O) 33 w0 O q [] [.code b29] (entE 0 0 sig29 (x0, ())) (entL sig29 (x0, ()))) ∧ (∀ (v7 : Int) (x0 : List (ByteArray × ByteArray × ByteArray × Unit)) ds, R29_2 n v7 x0 ds → ∀ w0 O q, AtV Tryd.prog 29 (PostR ds [] [] q w0 O) 33 w0 O q [] (cutAt b29 2) (E29_2 v7 x0) (L29_2 v7 x0)) := by
  intro n
  induction n with
  | zero => exact ⟨fun _ _ h => by simp only [R29] at h, fun _ _ _ h => by simp only [R29_2] at h⟩
  | succ n ih =>
  obtain ⟨ih, ih2⟩ := ih
  refine ⟨?_, ?_⟩
  · intro x0 ds h w0 O q
    rw [R29] at h
    exact AtV.runN tabOk ext29Ok mixed (p29_0 x0) trivial (ih2 _ _ _ h w0 O q)

  · intro v7 x0 ds h w0 O q
    rw [R29_2] at h
    by_cases b0 : (Decidable.decide (v7 < (↑(List.length x0) : Int))) = true
    · rw [if_pos b0] at h
      obtain ⟨s0, s1, h⟩ := h
      obtain ⟨s2, h⟩ := h
      by_cases b1 : (!g27_0 (List.getD x0 (Int.toNat v7) (ByteArray.empty, ByteArray.empty, ByteArray.empty, ()))) = true
      · rw [if_pos b1] at h
        subst h
        exact AtV.fin Tryd.func29 tabOk ext29Ok mixed (p29_1 v7 x0) ⟨b0, s0, s1, s2, b1, rfl, trivial⟩
      · rw [if_neg b1] at h
        replace b1 := Bool.eq_false_iff.2 b1
        by_cases b2 : (Decidable.decide (v7 > 0)) = true
        · rw [if_pos b2] at h
          obtain ⟨s3, h⟩ := h
          obtain ⟨s4, s5, h⟩ := h
          by_cases b3 : (Decidable.decide (g45_0 (List.getD x0 (Int.toNat (v7 - 1)) (ByteArray.empty, ByteArray.empty, ByteArray.empty, ())) (List.getD x0 (Int.toNat v7) (ByteArray.empty, ByteArray.empty, ByteArray.empty, ())) ≥ 0)) = true
          · rw [if_pos b3] at h
            subst h
            exact AtV.fin Tryd.func29 tabOk ext29Ok mixed (p29_2 v7 x0) ⟨b0, s0, s1, s2, b1, b2, s3, s4, s5, trivial, b3, trivial⟩
          · rw [if_neg b3] at h
            replace b3 := Bool.eq_false_iff.2 b3
            obtain ⟨s6, h⟩ := h
            exact AtV.runN tabOk ext29Ok mixed (p29_3 v7 x0) ⟨b0, s0, s1, s2, b1, b2, s3, s4, s5, trivial, b3, s6, trivial⟩ (ih2 _ _ _ h w0 O q)
        · rw [if_neg b2] at h
          replace b2 := Bool.eq_false_iff.2 b2
          obtain ⟨s3, h⟩ := h
          exact AtV.runN tabOk ext29Ok mixed (p29_4 v7 x0) ⟨b0, s0, s1, s2, b1, b2, rfl, s3, trivial⟩ (ih2 _ _ _ h w0 O q)
    · rw [if_neg b0] at h
      replace b0 := Bool.eq_false_iff.2 b0
      subst h
      exact AtV.fin Tryd.func29 tabOk ext29Ok mixed (p29_5 v7 x0) ⟨b0, trivial⟩



/-- A block at its place. -/
def ok29 (x0 : List (ByteArray × ByteArray × ByteArray × Unit)) (i : Nat) (x : ByteArray × ByteArray × ByteArray × Unit) : Bool :=
  g27_0 x && (i == 0 || !decide (g45_0 (x0.getD (i - 1) (ByteArray.empty, ByteArray.empty, ByteArray.empty, ())) x ≥ 0))
def g29_0 (x0 : List (ByteArray × ByteArray × ByteArray × Unit)) : Bool := allI (ok29 x0) 0 x0 && decide (x0.length ≤ 32)
def P29 (x0 : List (ByteArray × ByteArray × ByteArray × Unit)) : Prop := True

theorem step29 (n i : Nat) (x0 : List (ByteArray × ByteArray × ByteArray × Unit)) (hm : x0.length ≤ maxLen) (hi : i < x0.length) (ds : List Dyn) :
    (if ok29 x0 i (x0.getD i (ByteArray.empty, ByteArray.empty, ByteArray.empty, ())) = true then R29_2 n ((i : Int) + 1) x0 ds else ds = [⟨.bool, false⟩]) → R29_2 (n + 1) (i : Int) x0 ds := by
  intro h
  have hu := inR_up hm hi
  rw [R29_2, if_pos (by simp; omega)]
  refine ⟨by omega, by omega, ?_⟩
  simp only [Int.toNat_natCast]
  unfold ok29 at h
  refine ⟨pre27 _, ?_⟩
  by_cases h1 : g27_0 (x0.getD i (ByteArray.empty, ByteArray.empty, ByteArray.empty, ())) = true
  case neg =>
    have h1 := Bool.eq_false_iff.2 h1
    rw [h1] at h
    rw [if_pos (by rw [h1]; rfl)]
    simpa using h
  case pos =>
    rw [h1] at h
    rw [if_neg (by rw [h1]; simp)]
    by_cases h0 : (i : Int) > 0
    · rw [if_pos (by simpa using h0)]
      have hi0 : (i == 0) = false := by simp; omega
      have e : ((i : Int) - 1).toNat = i - 1 := by omega
      refine ⟨by rw [i64_iff]; have : maxLen ≤ 9223372036854775807 := by decide
                 omega, by omega, by omega, ?_⟩
      rw [e]
      by_cases h2 : g45_0 (x0.getD (i - 1) (ByteArray.empty, ByteArray.empty, ByteArray.empty, ())) (x0.getD i (ByteArray.empty, ByteArray.empty, ByteArray.empty, ())) ≥ 0
      · rw [if_pos (by simpa using h2)]
        rw [hi0, decide_eq_true h2] at h
        simpa using h
      · rw [if_neg (by simpa using h2)]
        rw [hi0, decide_eq_false h2] at h
        exact ⟨hu, by simpa using h⟩
    · rw [if_neg (by simpa using h0)]
      have hi0 : (i == 0) = true := by simp; omega
      rw [hi0] at h
      exact ⟨hu, by simpa using h⟩

theorem top29 (x0 : List (ByteArray × ByteArray × ByteArray × Unit)) (hw : x0.length ≤ maxLen) : R29 (x0.length + 1 + 1) x0 [⟨.bool, g29_0 x0⟩] := by
  rw [R29]
  have key := loop_testI x0 (ByteArray.empty, ByteArray.empty, ByteArray.empty, ()) (ok29 x0) [(⟨.bool, false⟩ : Dyn)] [⟨.bool, decide (x0.length ≤ 32)⟩] (fun n i ds => R29_2 n i x0 ds) (fun n => ?_) (fun n i hi hok ds hr => ?_) (fun n i hi hok => ?_)
  · unfold g29_0
    cases h : allI (ok29 x0) 0 x0 with
    | true => rw [if_pos h] at key; simpa using key
    | false => rw [if_neg (by rw [h]; simp)] at key; simpa using key
  · rw [R29_2, if_neg (by simp)]
    have hc : decide ((x0.length : Int) ≤ 32) = decide (x0.length ≤ 32) := by
      congr 1; exact propext ⟨fun h => by omega, fun h => by omega⟩
    rw [hc]
  · exact step29 n i x0 hw hi ds (by rw [if_pos hok]; exact hr)
  · exact step29 n i x0 hw hi _ (by rw [if_neg (by rw [hok]; simp)])

def S29 : Am.Spec := { sig := sig29, pre := fun ⟨x0, _⟩ => P29 x0, res := fun ⟨x0, _⟩ => [⟨Ty.bool, g29_0 x0⟩] }
theorem con29 : Contract Tryd.prog 29 S29 := contract_of Tryd.func29 hb29 (Nat.le_of_ble_eq_true (by kernel_rfl)) (fun ⟨x0, _⟩ h hwf w0 O q =>
  (snd29 _).1 x0 _ (top29 x0 hwf.1.1) w0 O q)

end Go.Proofs.YticibijneahllaaDoor

/- Function 46 (slices.Clone[[]impl.Block,impl.Block]): its contract, off what is known of the library. -/
set_option linter.unusedVariables false
set_option linter.unusedSimpArgs false
set_option maxRecDepth 100000
namespace Go.Proofs.YticibijneahllaaDoor
open Go Go.Am Go.Proofs

set_option maxHeartbeats 2000000 in
theorem nil46 (w : World) : Calls Tryd.prog 46 #[.slice none 0 0] w fun e w' => e = .returned (.slice none 0 0) ∧ w' = w := by
  have mixed := mixed
  have q22 : ∀ (w : World) (a : Option Addr) (n c n' c' : Nat), (binOp .eql 22 (.slice a n c) (.slice none n' c')).run Tryd.prog w = .ok (.bool a.isNone) w := fun w a n c n' c' => Lib.run_eql_slice_nil w _ _ a n c n' c' Tryd.underlying22
  go_enter Tryd.func46, Tryd.ntmps46
  go_wp2
  go_ret
  exact ⟨rfl, rfl⟩

set_option maxHeartbeats 4000000 in
theorem some46 (w : World) (a : Addr) (n c : Nat) (news : List Value) (hl : news.length = n * (Ty.size (Ty.cons Ty.str (Ty.cons Ty.str (Ty.cons Ty.str Ty.unit))))) (hn : n ≤ 1048576) (hc : ∀ (j : Nat) (u : Value), news[j]? = some u → w.cell? (a.add j) = some u) (h1 : ∀ u ∈ news, u.oneCell' = true) :
    Calls Tryd.prog 46 #[.slice (some a) n c] w fun r w' => ∃ v', r = .returned v' ∧ w'.ownsRow w.heap.size 31 (Ty.size (Ty.cons Ty.str (Ty.cons Ty.str (Ty.cons Ty.str Ty.unit)))) v' n news ∧ Go.RowKit.Below w.heap.size w w' := by
  have mixed := mixed
  have q22 : ∀ (w : World) (a : Option Addr) (n c n' c' : Nat), (binOp .eql 22 (.slice a n c) (.slice none n' c')).run Tryd.prog w = .ok (.bool a.isNone) w := fun w a n c n' c' => Lib.run_eql_slice_nil w _ _ a n c n' c' Tryd.underlying22
  have hinfo : TIOk Tryd.prog 22 (tabGet tab 22) := tabOk 22
  obtain ⟨_, _, ⟨_, ⟨i0, hi0, hz1, z, hz0, hzs, _⟩⟩, hby⟩ := hinfo
  rw [hi0] at hby
  simp only [Option.map_some, Option.some.injEq] at hby
  have hzs' : z.cells.size = Ty.size (Ty.cons Ty.str (Ty.cons Ty.str (Ty.cons Ty.str Ty.unit))) := by rw [← Array.length_toList, hzs]; rfl
  have A : Aside (∀ (j : Nat) (u : Value), news[j]? = some u → w.cell? (a.add j) = some u) := hc
  clear hc
  go_enter Tryd.func46, Tryd.ntmps46
  go_wp2_with (at_builtin; refine wpList_append_own _ rfl _ _ 22 rfl w.heap.size 31 i0 z (Ty.size (Ty.cons Ty.str (Ty.cons Ty.str (Ty.cons Ty.str Ty.unit)))) i0.bytes Tryd.underlying22 hi0 hz0 hz1 rfl hzs' (by decide) _ _ _ rfl (World.ownsRow_made w #[] 0 (Nat.le_refl _) (Nat.zero_le _) (by simp)) a n c news rfl ?qc1 ?qc2 ?qc3 ?qc4 ?qc5 ?qc6 ?_)
  case qc1 => exact hl
  case qc2 => intro j u hj; exact Lib.cell?_alloc_some _ (A.out j u hj)
  case qc3 => exact h1
  case qc4 => unfold maxLen; omega
  case qc5 => rw [hby]; omega
  case qc6 => simp
  intro v' w1 hown hgrow hnil
  go_wp2
  go_ret
  exact ⟨v', rfl, by simpa using hown, ((Go.RowKit.Below.refl _ w).alloc (Nat.le_refl _) _).grown hgrow (by simp) (by intro k hk; simp [Value.ownBlock] at hk; omega)⟩

def sig46 : List AT := [AT.v (Ty.sl (Ty.cons Ty.str (Ty.cons Ty.str (Ty.cons Ty.str Ty.unit))))]
def g46_0 (x0 : List (ByteArray × ByteArray × ByteArray × Unit)) : List (ByteArray × ByteArray × ByteArray × Unit) := x0
def P46 (x0 : List (ByteArray × ByteArray × ByteArray × Unit)) : Prop := x0.length ≤ 1048576
def S46 : Am.Spec := { sig := sig46, pre := fun ⟨x0, _⟩ => P46 x0, res := fun ⟨x0, _⟩ => [⟨Ty.sl (Ty.cons Ty.str (Ty.cons Ty.str (Ty.cons Ty.str Ty.unit))), g46_0 x0⟩] }
theorem con46 : Contract Tryd.prog 46 S46 := clone_contract (t := (Ty.cons Ty.str (Ty.cons Ty.str (Ty.cons Ty.str Ty.unit)))) (e := 31) rfl nil46 some46

end Go.Proofs.YticibijneahllaaDoor

/- Function 63 (slices.BinarySearchFunc[[]impl.Block,impl.Block,impl.Block]): its runs between cut points. Written by a program of this repo (gen). -/
set_option linter.unusedVariables false
set_option linter.unusedSimpArgs false
set_option maxRecDepth 100000
namespace Go.Proofs.YticibijneahllaaDoor
open Go Go.Am Go.Proofs
def ext63c45 : Ext := [(45, S45)]
theorem call63c45_45 : Callable Tryd.prog 45 := ⟨Tryd.f45, Tryd.func45, by kernel_rfl, by kernel_rfl⟩
theorem ext63c45Ok : ExtOk Tryd.prog ext63c45 := ⟨⟨call63c45_45, con45⟩, trivial⟩
/-! Function 63c45. -/
noncomputable def b63c45 : Code := bodyOf Tryd.f63
theorem hb63c45 : Tryd.f63.body = some b63c45 := by kernel_rfl
def sig63c45 : List AT := [AT.v (Ty.sl (Ty.cons Ty.str (Ty.cons Ty.str (Ty.cons Ty.str Ty.unit)))), AT.v (Ty.cons Ty.str (Ty.cons Ty.str (Ty.cons Ty.str Ty.unit))), AT.fn 45 []]
def tys63c45 : List Ty := [Ty.int IntKind.i64, Ty.bool]
def E63c45_3 (v9 : Int) (v10 : Int) (x0 : List (ByteArray × ByteArray × ByteArray × Unit)) (x1 : ByteArray × ByteArray × ByteArray × Unit) : Env := [(0, PV.a (Atom.sl (Ty.cons Ty.str (Ty.cons Ty.str (Ty.cons Ty.str Ty.unit))) x0)), (2, PV.fn 45 []), (4, PV.a (Atom.optr 0 0 [])), (8, PV.a (Atom.val (Value.int IntKind.i64 (↑(List.length x0) : Int)))), (9, PV.a (Atom.val (Value.int IntKind.i64 v9))), (10, PV.a (Atom.val (Value.int IntKind.i64 v10)))]
def L63c45_3 (v9 : Int) (v10 : Int) (x0 : List (ByteArray × ByteArray × ByteArray × Unit)) (x1 : ByteArray × ByteArray × ByteArray × Unit) : Heap := [Option.some (Arr.mk (Ty.cons Ty.str (Ty.cons Ty.str (Ty.cons Ty.str Ty.unit))) [x1] Bool.true)]
mutual
def R63c45 : Nat → List (ByteArray × ByteArray × ByteArray × Unit) → ByteArray × ByteArray × ByteArray × Unit → List Dyn → Prop
  | 0, _, _, _ => False
  | n + 1, x0, x1, ds => (R63c45_3 n (0) ((↑(List.length x0) : Int)) (x0) (x1) ds)
def R63c45_3 : Nat → Int → Int → List (ByteArray × ByteArray × ByteArray × Unit) → ByteArray × ByteArray × ByteArray × Unit → List Dyn → Prop
  | 0, _, _, _, _, _ => False
  | n + 1, v9, v10, x0, x1, ds => (if (Decidable.decide (v9 < v10)) = true then ((InR IntKind.i64 (v9 + v10)) ∧ ((InR IntKind.u64 (v9 + v10)) ∧ ((InR IntKind.u64 (Int.fdiv (v9 + v10) 2)) ∧ ((InR IntKind.i64 (Int.fdiv (v9 + v10) 2)) ∧ ((0 ≤ Int.fdiv (v9 + v10) 2) ∧ (Int.fdiv (v9 + v10) 2 < (↑(List.length x0) : Int)) ∧ (if (Decidable.decide (g45_0 (List.getD x0 (Int.toNat (Int.fdiv (v9 + v10) 2)) (ByteArray.empty, ByteArray.empty, ByteArray.empty, ())) x1 < 0)) = true then ((InR IntKind.i64 (Int.fdiv (v9 + v10) 2 + 1)) ∧ (R63c45_3 n (Int.fdiv (v9 + v10) 2 + 1) (v10) (x0) (x1) ds)) else (R63c45_3 n (v9) (Int.fdiv (v9 + v10) 2) (x0) (x1) ds))))))) else (if (Decidable.decide (v9 < (↑(List.length x0) : Int))) = true then ((0 ≤ v9) ∧ (v9 < (↑(List.length x0) : Int)) ∧ (ds = [Dyn.mk (Ty.int IntKind.i64) v9, Dyn.mk Ty.bool (g45_0 (List.getD x0 (Int.toNat v9) (ByteArray.empty, ByteArray.empty, ByteArray.empty, ())) x1 == 0)])) else (ds = [Dyn.mk (Ty.int IntKind.i64) v9, Dyn.mk Ty.bool Bool.false])))
end
theorem p63c45_0 (x0 : List (ByteArray × ByteArray × ByteArray × Unit)) (x1 : ByteArray × ByteArray × ByteArray × Unit) : Am.runN tab ext63c45 false 49 [] 2000 [] [] [0, 2, 4, 8, 9, 10] [0] [] [.code b63c45] (entE 0 0 sig63c45 (x0, x1, (), ())) (entL sig63c45 (x0, x1, (), ())) = some (cutAt b63c45 3, E63c45_3 (0) ((↑(List.length x0) : Int)) (x0) (x1), L63c45_3 (0) ((↑(List.length x0) : Int)) (x0) (x1), []) := by kernel_rfl
theorem p63c45_1 (v9 : Int) (v10 : Int) (x0 : List (ByteArray × ByteArray × ByteArray × Unit)) (x1 : ByteArray × ByteArray × ByteArray × Unit) : Am.runN tab ext63c45 false 49 [] 2000 [] [] [0, 2, 4, 8, 9, 10] [0] [true, true] (cutAt b63c45 3) (E63c45_3 v9 v10 x0 x1) (L63c45_3 v9 v10 x0 x1) = some (cutAt b63c45 3, E63c45_3 (Int.fdiv (v9 + v10) 2 + 1) (v10) (x0) (x1), L63c45_3 (Int.fdiv (v9 + v10) 2 + 1) (v10) (x0) (x1), [Decidable.decide (v9 < v10) = Bool.true, InR IntKind.i64 (v9 + v10), InR IntKind.u64 (v9 + v10), (0 : Int) ≤ (1 : Int), InR IntKind.u64 (Int.fdiv (v9 + v10) 2), InR IntKind.i64 (Int.fdiv (v9 + v10) 2), 0 ≤ Int.fdiv (v9 + v10) 2, Int.fdiv (v9 + v10) 2 < (↑(List.length x0) : Int), True, Decidable.decide (g45_0 (List.getD x0 (Int.toNat (Int.fdiv (v9 + v10) 2)) (ByteArray.empty, ByteArray.empty, ByteArray.empty, ())) x1 < 0) = Bool.true, InR IntKind.i64 (Int.fdiv (v9 + v10) 2 + 1)]) := by kernel_rfl
theorem p63c45_2 (v9 : Int) (v10 : Int) (x0 : List (ByteArray × ByteArray × ByteArray × Unit)) (x1 : ByteArray × ByteArray × ByteArray × Unit) : Am.runN tab ext63c45 false 49 [] 2000 [] [] [0, 2, 4, 8, 9, 10] [0] [true, false] (cutAt b63c45 3) (E63c45_3 v9 v10 x0 x1) (L63c45_3 v9 v10 x0 x1) = some (cutAt b63c45 3, E63c45_3 (v9) (Int.fdiv (v9 + v10) 2) (x0) (x1), L63c45_3 (v9) (Int.fdiv (v9 + v10) 2) (x0) (x1), [Decidable.decide (v9 < v10) = Bool.true, InR IntKind.i64 (v9 + v10), InR IntKind.u64 (v9 + v10), (0 : Int) ≤ (1 : Int), InR IntKind.u64 (Int.fdiv (v9 + v10) 2), InR IntKind.i64 (Int.fdiv (v9 + v10) 2), 0 ≤ Int.fdiv (v9 + v10) 2, Int.fdiv (v9 + v10) 2 < (↑(List.length x0) : Int), True, Decidable.decide (g45_0 (List.getD x0 (Int.toNat (Int.fdiv (v9 + v10) 2)) (ByteArray.empty, ByteArray.empty, ByteArray.empty, ())) x1 < 0) = Bool.false]) := by kernel_rfl
theorem p63c45_3 (v9 : Int) (v10 : Int) (x0 : List (ByteArray × ByteArray × ByteArray × Unit)) (x1 : ByteArray × ByteArray × ByteArray × Unit) : runF tab ext63c45 false 49 [] 2000 [] tys63c45 Tryd.f63.results [false, true] (cutAt b63c45 3) (E63c45_3 v9 v10 x0 x1) (L63c45_3 v9 v10 x0 x1) = some ([Dyn.mk (Ty.int IntKind.i64) v9, Dyn.mk Ty.bool (g45_0 (List.getD x0 (Int.toNat v9) (ByteArray.empty, ByteArray.empty, ByteArray.empty, ())) x1 == 0)], [], [Decidable.decide (v9 < v10) = Bool.false, Decidable.decide (v9 < (↑(List.length x0) : Int)) = Bool.true, 0 ≤ v9, v9 < (↑(List.length x0) : Int), True]) := by kernel_rfl
theorem p63c45_4 (v9 : Int) (v10 : Int) (x0 : List (ByteArray × ByteArray × ByteArray × Unit)) (x1 : ByteArray × ByteArray × ByteArray × Unit) : runF tab ext63c45 false 49 [] 2000 [] tys63c45 Tryd.f63.results [false, false] (cutAt b63c45 3) (E63c45_3 v9 v10 x0 x1) (L63c45_3 v9 v10 x0 x1) = some ([Dyn.mk (Ty.int IntKind.i64) v9, Dyn.mk Ty.bool Bool.false], [], [Decidable.decide (v9 < v10) = Bool.false, Decidable.decide (v9 < (↑(List.length x0) : Int)) = Bool.false]) := by kernel_rfl
theorem snd63c45 : ∀ n, (∀ (x0 : List (ByteArray × ByteArray × ByteArray × Unit)) (x1 : ByteArray × ByteArray × ByteArray × Unit) ds, R63c45 n x0 x1 ds → ∀ w0 O q, AtV Tryd.prog 63 (PostR ds [] [] q w0 O) 49 w0 O q [] [.code b63c45] (entE 0 0 sig63c45 (x0, x1, (), ())) (entL sig63c45 (x0, x1, (), ()))) ∧ (∀ (v9 : Int) (v10 : Int) (x0 : List (ByteArray × ByteArray × ByteArray × Unit)) (x1 : ByteArray × ByteArray × ByteArray × Unit) ds, R63c45_3 n v9 v10 x0 x1 ds → ∀ w0 O q, AtV Tryd.prog 63 (PostR ds [] [] q w0 O) 49 w0 O q [] (cutAt b63c45 3) (E63c45_3 v9 v10 x0 x1) (L63c45_3 v9 v10 x0 x1)) := by
  intro n
  induction n with
  | zero => exact ⟨fun _ _ _ h => by simp only [R63c45] at h, fun _ _ _ _ _ h => by simp only [R63c45_3] at h⟩
  | succ n ih =>
  obtain ⟨ih, ih3⟩ := ih
  refine ⟨?_, ?_⟩
  · intro x0 x1 ds h w0 O q
    rw [R63c45] at h
    exact AtV.runN tabOk ext63c45Ok mixed (p63c45_0 x0 x1) trivial (ih3 _ _ _ _ _ h w0 O q)

  · intro v9 v10 x0 x1 ds h w0 O q
    rw [R63c45_3] at h
    by_cases b0 : (Decidable.decide (v9 < v10)) = true
    · rw [if_pos b0] at h
      obtain ⟨s0, h⟩ := h
      obtain ⟨s1, h⟩ := h
      obtain ⟨s2, h⟩ := h
      obtain ⟨s3, h⟩ := h
      obtain ⟨s4, s5, h⟩ := h
      by_cases b1 : (Decidable.decide (g45_0 (List.getD x0 (Int.toNat (Int.fdiv (v9 + v10) 2)) (ByteArray.empty, ByteArray.empty, ByteArray.empty, ())) x1 < 0)) = true
      · rw [if_pos b1] at h
        obtain ⟨s6, h⟩ := h
        exact AtV.runN tabOk ext63c45Ok mixed (p63c45_1 v9 v10 x0 x1) ⟨b0, s0, s1, (by decide), s2, s3, s4, s5, trivial, b1, s6, trivial⟩ (ih3 _ _ _ _ _ h w0 O q)
      · rw [if_neg b1] at h
        replace b1 := Bool.eq_false_iff.2 b1
        exact AtV.runN tabOk ext63c45Ok mixed (p63c45_2 v9 v10 x0 x1) ⟨b0, s0, s1, (by decide), s2, s3, s4, s5, trivial, b1, trivial⟩ (ih3 _ _ _ _ _ h w0 O q)
    · rw [if_neg b0] at h
      replace b0 := Bool.eq_false_iff.2 b0
      by_cases b1 : (Decidable.decide (v9 < (↑(List.length x0) : Int))) = true
      · rw [if_pos b1] at h
        obtain ⟨s0, s1, h⟩ := h
        subst h
        exact AtV.fin Tryd.func63 tabOk ext63c45Ok mixed (p63c45_3 v9 v10 x0 x1) ⟨b0, b1, s0, s1, trivial, trivial⟩
      · rw [if_neg b1] at h
        replace b1 := Bool.eq_false_iff.2 b1
        subst h
        exact AtV.fin Tryd.func63 tabOk ext63c45Ok mixed (p63c45_4 v9 v10 x0 x1) ⟨b0, b1, trivial⟩



def p63c45 (x0 : List (ByteArray × ByteArray × ByteArray × Unit)) (x1 : ByteArray × ByteArray × ByteArray × Unit) (h : Nat) : Bool := decide (g45_0 (x0.getD h (ByteArray.empty, ByteArray.empty, ByteArray.empty, ())) x1 < 0)
/-- Where the search comes to. -/
def k63c45 (x0 : List (ByteArray × ByteArray × ByteArray × Unit)) (x1 : ByteArray × ByteArray × ByteArray × Unit) : Nat := bsearch (p63c45 x0 x1) (x0.length + 1) 0 x0.length
def f63c45 (x0 : List (ByteArray × ByteArray × ByteArray × Unit)) (x1 : ByteArray × ByteArray × ByteArray × Unit) (k : Nat) : Bool := if k < x0.length then g45_0 (x0.getD k (ByteArray.empty, ByteArray.empty, ByteArray.empty, ())) x1 == 0 else false
def g63c45_0 (x0 : List (ByteArray × ByteArray × ByteArray × Unit)) (x1 : ByteArray × ByteArray × ByteArray × Unit) : Int := (k63c45 x0 x1 : Nat)
def g63c45_1 (x0 : List (ByteArray × ByteArray × ByteArray × Unit)) (x1 : ByteArray × ByteArray × ByteArray × Unit) : Bool := f63c45 x0 x1 (k63c45 x0 x1)
def P63c45 (x0 : List (ByteArray × ByteArray × ByteArray × Unit)) (x1 : ByteArray × ByteArray × ByteArray × Unit) : Prop := x0.length ≤ 4611686018427387903

theorem u64_iff (n : Int) : InR .u64 n ↔ 0 ≤ n ∧ n ≤ 18446744073709551615 := by
  have e1 : (IntKind.u64).min = 0 := by decide
  have e2 : (IntKind.u64).max = 18446744073709551615 := by decide
  simp only [InR, e1, e2]

theorem run63c45 (x0 : List (ByteArray × ByteArray × ByteArray × Unit)) (x1 : ByteArray × ByteArray × ByteArray × Unit) (hm : x0.length ≤ 4611686018427387903) : ∀ (k i j : Nat), j - i < k → i ≤ j → j ≤ x0.length →
    R63c45_3 k (i : Int) (j : Int) x0 x1 [⟨.int .i64, ((bsearch (p63c45 x0 x1) k i j : Nat) : Int)⟩, ⟨.bool, f63c45 x0 x1 (bsearch (p63c45 x0 x1) k i j)⟩] := by
  intro k
  induction k with
  | zero => intro i j h; omega
  | succ k ih =>
    intro i j h hij hj
    rw [R63c45_3]
    by_cases hlt : i < j
    · rw [if_pos (by simpa using hlt)]
      have e : Int.fdiv ((i : Int) + (j : Int)) 2 = (((i + j) / 2 : Nat) : Int) := by
        rw [Int.fdiv_eq_ediv_of_nonneg _ (by omega)]
        omega
      rw [e]
      simp only [Int.toNat_natCast, i64_iff, u64_iff]
      refine ⟨by omega, by omega, by omega, by omega, by omega, by omega, ?_⟩
      simp only [bsearch, if_pos hlt]
      by_cases hp : p63c45 x0 x1 ((i + j) / 2) = true
      · rw [if_pos hp, if_pos (by exact hp)]
        refine ⟨by omega, ?_⟩
        exact ih ((i + j) / 2 + 1) j (by omega) (by omega) hj
      · rw [if_neg hp, if_neg (by exact hp)]
        exact ih i ((i + j) / 2) (by omega) (by omega) (by omega)
    · rw [if_neg (by simpa using hlt)]
      simp only [bsearch, if_neg hlt, f63c45]
      by_cases hl : i < x0.length
      · rw [if_pos (by simpa using hl)]
        refine ⟨by omega, by omega, ?_⟩
        simp [hl]
      · rw [if_neg (by simpa using hl)]
        simp [hl]

def S63c45 : Am.Spec := { sig := sig63c45, pre := fun ⟨x0, x1, _⟩ => P63c45 x0 x1, res := fun ⟨x0, x1, _⟩ => [⟨Ty.int .i64, g63c45_0 x0 x1⟩, ⟨Ty.bool, g63c45_1 x0 x1⟩] }
theorem con63c45 : Contract Tryd.prog 63 S63c45 := contract_of Tryd.func63 hb63c45 (Nat.le_of_ble_eq_true (by kernel_rfl)) (fun ⟨x0, x1, _⟩ h hwf w0 O q =>
  (snd63c45 (x0.length + 1 + 1)).1 x0 x1 _ (by rw [R63c45]; exact run63c45 x0 x1 h (x0.length + 1) 0 x0.length (by omega) (by omega) (Nat.le_refl _)) w0 O q)

end Go.Proofs.YticibijneahllaaDoor

/- Function 47 (impl.blockAt): its runs between cut points. Written by a program of this repo (gen). -/
set_option linter.unusedVariables false
set_option linter.unusedSimpArgs false
set_option maxRecDepth 100000
namespace Go.Proofs.YticibijneahllaaDoor
open Go Go.Am Go.Proofs
def ext47 : Ext := [(63, S63c45)]
theorem call47_63 : Callable Tryd.prog 63 := ⟨Tryd.f63, Tryd.func63, by kernel_rfl, by kernel_rfl⟩
theorem ext47Ok : ExtOk Tryd.prog ext47 := ⟨⟨call47_63, con63c45⟩, trivial⟩
/-! Function 47. -/
noncomputable def b47 : Code := bodyOf Tryd.f47
theorem hb47 : Tryd.f47.body = some b47 := by kernel_rfl
def sig47 : List AT := [AT.v (Ty.sl (Ty.cons Ty.str (Ty.cons Ty.str (Ty.cons Ty.str Ty.unit)))), AT.v (Ty.cons Ty.str (Ty.cons Ty.str (Ty.cons Ty.str Ty.unit)))]
def tys47 : List Ty := [Ty.int IntKind.i64, Ty.bool]
def P47 (x0 : List (ByteArray × ByteArray × ByteArray × Unit)) (x1 : ByteArray × ByteArray × ByteArray × Unit) : Prop := ((P63c45 x0 x1) ∧ True)
def g47_0 (x0 : List (ByteArray × ByteArray × ByteArray × Unit)) (x1 : ByteArray × ByteArray × ByteArray × Unit) : Int := g63c45_0 x0 x1
def g47_1 (x0 : List (ByteArray × ByteArray × ByteArray × Unit)) (x1 : ByteArray × ByteArray × ByteArray × Unit) : Bool := g63c45_1 x0 x1
theorem p47_0 (x0 : List (ByteArray × ByteArray × ByteArray × Unit)) (x1 : ByteArray × ByteArray × ByteArray × Unit) : runF tab ext47 false 11 [] 2000 [] tys47 Tryd.f47.results [] [.code b47] (entE 0 0 sig47 (x0, x1, ())) (entL sig47 (x0, x1, ())) = some ([Dyn.mk (Ty.int IntKind.i64) (g63c45_0 x0 x1), Dyn.mk Ty.bool (g63c45_1 x0 x1)], [], [P63c45 x0 x1]) := by kernel_rfl
theorem at47 (x0 : List (ByteArray × ByteArray × ByteArray × Unit)) (x1 : ByteArray × ByteArray × ByteArray × Unit) (h : P47 x0 x1) (w0 : World) (O : List Nat) (q : Nat → Value) : AtV Tryd.prog 47 (PostR [⟨Ty.int IntKind.i64, g47_0 x0 x1⟩, ⟨Ty.bool, g47_1 x0 x1⟩] [] [] q w0 O) 11 w0 O q [] [.code b47] (entE 0 0 sig47 (x0, x1, ())) (entL sig47 (x0, x1, ())) := by
  unfold P47 at h
  unfold g47_0 g47_1
  obtain ⟨s0, h⟩ := h
  exact AtV.fin Tryd.func47 tabOk ext47Ok mixed (p47_0 x0 x1) ⟨s0, trivial⟩

def S47 : Am.Spec := { sig := sig47, pre := fun ⟨x0, x1, _⟩ => P47 x0 x1, res := fun ⟨x0, x1, _⟩ => [⟨Ty.int IntKind.i64, g47_0 x0 x1⟩, ⟨Ty.bool, g47_1 x0 x1⟩] }
theorem con47 : Contract Tryd.prog 47 S47 := contract_of Tryd.func47 hb47 (Nat.le_of_ble_eq_true (by kernel_rfl)) (fun ⟨x0, x1, _⟩ h _ w0 O q => at47 x0 x1 h w0 O q)


end Go.Proofs.YticibijneahllaaDoor

/- Function 48 (slices.Insert[[]impl.Block,impl.Block]): its contract, off what is known of the library. -/
set_option linter.unusedVariables false
set_option linter.unusedSimpArgs false
set_option maxRecDepth 100000
namespace Go.Proofs.YticibijneahllaaDoor
open Go Go.Am Go.Proofs

open Go.RowKit in
/-- 'copy(d, s)' for the walk, where its run is known. -/
theorem wpcp48 {P : Program} (w : World) {o : Oper} {a : Act} {K : Act → World → Prop} {Q : Exit → Act → World → Prop} (d s : Operand) (t t' : TypeId)
    (ho : o.op = .call { callee := .builtin .copy, args := #[d, s], argTypes := #[t, t'] }) (v u : Value) (hd : a.eval d = v) (hs : a.eval s = u) {v' : Value} {w' : World}
    (hr : (Builtin.copy_ #[t, t'] o.type #[v, u]).run P w = .ok v' w') (h : K (a.put o.dst v') w') : o.wp P a w K Q := by
  unfold Oper.wp execOp
  simp only [ho, resolve, invoke, builtin, Sem.run_bind, Sem.run_pure, Result.andThen_ok, List.map_toArray, List.map_cons, List.map_nil, hd, hs, hr]
  exact h

theorem lcp48 {P : Program} (w : World) {ops : Array Oper} {rest : List Oper} {o : Oper} {a : Act} {Q : Exit → Act → World → Prop} (hgd : o.guard = none) (d s : Operand) (t t' : TypeId)
    (ho : o.op = .call { callee := .builtin .copy, args := #[d, s], argTypes := #[t, t'] }) (v u : Value) (hd : a.eval d = v) (hs : a.eval s = u) {v' : Value} {w' : World}
    (hr : (Builtin.copy_ #[t, t'] o.type #[v, u]).run P w = .ok v' w') (h : wpList P ops Q rest (a.put o.dst v') w') : wpList P ops Q (o :: rest) a w :=
  wpList_plain hgd fun _ hK => wpcp48 w d s t t' ho v u hd hs hr (hK _ _ h)

theorem scp48 {P : Program} {ops : Array Oper} {o : Oper} {a : Act} {w : World} {K : Act → World → Prop} {Q : Exit → Act → World → Prop} {E : Prop}
    (hg : o.guard = none) (d x : Operand) (dT sT : TypeId) (hop : o.op = Op.call { callee := Callee.builtin Builtin.copy, args := #[d, x], argTypes := #[dT, sT] })
    (v u : Value) (hd : a.eval d = v) (hx : a.eval x = u) {v' : Value} {w' : World} (hr : (Builtin.copy_ #[dT, sT] o.type #[v, u]).run P w = .ok v' w') (hK : K (a.put o.dst v') w') :
    if Region.wanted o (yielded ops a.tmps) = true then Oper.wp P o a w K Q else E := by
  have hw : Region.wanted o (yielded ops a.tmps) = true := by simp [Region.wanted, hg]
  rw [if_pos hw]
  unfold Oper.wp
  simp [execOp, hop, resolve, invoke, builtin, hd, hx, hr, Result.andThen]
  exact hK

theorem frozen_end48 {w : World} {ys : List (ByteArray × ByteArray × ByteArray × Unit)} {b off cap : Nat} {cur : Array Value} {ty : TypeId} {fz : Nat × Nat} (h : OwnAt w (Ty.cons Ty.str (Ty.cons Ty.str (Ty.cons Ty.str Ty.unit))) ys b off cap cur ty fz) : w.frozen? ⟨b, cur.size, none⟩ = false := by
  have h2 := (h.free.2.resolve_left (by decide)) cur.size (by omega)
  simp only [World.frozen?, h.blk]
  rw [Bool.eq_false_iff]
  intro hh
  simp only [Bool.and_eq_true, decide_eq_true_eq] at hh
  exact h2 hh

theorem info48 : ∃ (i0 : TypeInfo) (z : Value), Tryd.prog.info? 31 = some i0 ∧ i0.size = 3 ∧ i0.zero = some z ∧ z.cells = (dcells (Ty.cons Ty.str (Ty.cons Ty.str (Ty.cons Ty.str Ty.unit)))).toArray ∧ (Tryd.prog.info? 31).map (·.size) = some 3 ∧ ∃ by', i0.bytes = by' ∧ by' ≤ 256 ∧ i0.bytes * 1048577 ≤ 140737488355328 := by
  have hinfo : TIOk Tryd.prog 22 (tabGet tab 22) := tabOk 22
  obtain ⟨_, _, ⟨_, ⟨i0, hi0, hz1, z, hz0, hzs, hzv⟩⟩, hby⟩ := hinfo
  rw [hi0] at hby
  simp only [Option.map_some, Option.some.injEq] at hby
  refine ⟨i0, z, hi0, hz1, hz0, Array.toList_inj.1 (by rw [hzs]), by rw [hi0]; exact congrArg some hz1, _, rfl, ?_, ?_⟩
  · rw [hby]; decide
  · rw [hby]; decide

open Go.RowKit in
set_option maxHeartbeats 8000000 in
theorem end48 (w : World) (xs ys : List (ByteArray × ByteArray × ByteArray × Unit)) (b off cap : Nat) (cur : Array Value) (ty : TypeId) (fz : Nat × Nat) (vb voff vcap : Nat) (vcur : Array Value) (vty : TypeId) (vfz : Nat × Nat) (hA : OwnAt w (Ty.cons Ty.str (Ty.cons Ty.str (Ty.cons Ty.str Ty.unit))) xs b off cap cur ty fz) (hB : OwnAt w (Ty.cons Ty.str (Ty.cons Ty.str (Ty.cons Ty.str Ty.unit))) ys vb voff vcap vcur vty vfz) (h1 : ys.length = 1) (hvb : vb ≠ b) (hroom : xs.length + 1 ≤ cap) :
      Calls Tryd.prog 48 #[.slice (some ⟨b, off, none⟩) xs.length cap, .int .i64 xs.length, .slice (some ⟨vb, voff, none⟩) 1 vcap] w fun r w' => r = .returned (.slice (some ⟨b, off, none⟩) (xs.length + 1) cap) ∧
        ∃ q, w' = (w.drewN q).setCells b (off + xs.length * Ty.size (Ty.cons Ty.str (Ty.cons Ty.str (Ty.cons Ty.str Ty.unit)))) (fcs (Ty.cons Ty.str (Ty.cons Ty.str (Ty.cons Ty.str Ty.unit))) ys) := by
  have mixed := mixed
  obtain ⟨i0, z, hi0, hz1, hz0, hzc, hzm, _⟩ := info48
  have hlen := hA.len
  have hcapm := hA.capm
  have hvl : (fcs (Ty.cons Ty.str (Ty.cons Ty.str (Ty.cons Ty.str Ty.unit))) ys).length = 1 * 3 := by
    have := fcs_length (t := (Ty.cons Ty.str (Ty.cons Ty.str (Ty.cons Ty.str Ty.unit)))) rfl (xs := ys) hB.wf
    rw [this, h1]; rfl
  obtain ⟨vs, hvs⟩ : ∃ vs, vs = fcs (Ty.cons Ty.str (Ty.cons Ty.str (Ty.cons Ty.str Ty.unit))) ys := ⟨_, rfl⟩
  have hvc : ∀ (j : Nat) (u : Value), vs[j]? = some u → w.cell? ⟨vb, voff + j, none⟩ = some u := fun j u hj => hB.cell j u (by rw [← hvs]; exact hj)
  rw [← hvs] at hvl ⊢
  have hle : (xs.length + 1) * 3 ≤ cap * 3 := Nat.mul_le_mul_right _ hroom
  have s2 : ∀ u ∈ vs, u.oneCell' = true := by rw [hvs]; exact fcells_ones rfl _
  have hsrc : Src Tryd.prog i0.size 22 (.slice (some ⟨vb, voff, none⟩) 1 vcap) 1 vs w := by
    rw [hz1]
    exact Src.ofSlice w Tryd.underlying22 ⟨vb, voff, none⟩ 1 vcap vs hvl (fun j u hj => by rw [Addr.add_lit]; exact hvc j u hj) s2
  have A0 : ∀ k, k < cap * 3 → (w.cell? ⟨b, off + k, none⟩).isSome = true ∧ w.frozen? ⟨b, off + k, none⟩ = false := fun k hk => ⟨hA.some' k hk, hA.unfrozen k hk⟩
  have r1 : ∀ j, j < vs.length → (w.cell? ⟨b, off + xs.length * i0.size + j, none⟩).isSome = true := fun j hj => by rw [hz1, Nat.add_assoc]; exact (A0 _ (by omega)).1
  have r2 : ∀ j, j < vs.length → w.frozen? ⟨b, off + xs.length * i0.size + j, none⟩ = false := fun j hj => by rw [hz1, Nat.add_assoc]; exact (A0 _ (by omega)).2
  have R1 : Aside (∀ j, j < vs.length → (w.cell? ⟨b, off + xs.length * i0.size + j, none⟩).isSome = true) := r1
  have R2 : Aside (∀ j, j < vs.length → w.frozen? ⟨b, off + xs.length * i0.size + j, none⟩ = false) := r2
  have N : Aside (i0.size = 3) := hz1
  clear r1 r2 A0 s2 hvc hvs hzc hz0 hzm hA hB
  go_enter Tryd.func48, Tryd.ntmps48
  go_wp2_with (at_builtin; refine wpList_append_room_src _ rfl _ _ 22 22 rfl 31 i0 Tryd.underlying22 hi0 b off xs.length cap rfl _ rfl 1 vs hsrc hroom R1.out R2.out ?_)
  go_ret
  exact ⟨rfl, 0, rfl⟩

open Go.RowKit in
set_option maxHeartbeats 8000000 in
theorem last48 (w : World) (xs ys : List (ByteArray × ByteArray × ByteArray × Unit)) (ad : Option Addr) (cap : Nat) (vb voff vcap : Nat) (vcur : Array Value) (vty : TypeId) (vfz : Nat × Nat) (hw : ∀ x ∈ xs, Wf (Ty.cons Ty.str (Ty.cons Ty.str (Ty.cons Ty.str Ty.unit))) x) (hlen : xs.length ≤ cap) (hnil : ad = none → xs = []) (hcs : ∀ a, ad = some a → ∀ (j : Nat) (u : Value), (fcs (Ty.cons Ty.str (Ty.cons Ty.str (Ty.cons Ty.str Ty.unit))) xs)[j]? = some u → w.cell? (a.add j) = some u) (hB : OwnAt w (Ty.cons Ty.str (Ty.cons Ty.str (Ty.cons Ty.str Ty.unit))) ys vb voff vcap vcur vty vfz) (h1 : ys.length = 1) (hroom : cap < xs.length + 1) (hmax : xs.length ≤ 1048576) :
      Calls Tryd.prog 48 #[.slice ad xs.length cap, .int .i64 xs.length, .slice (some ⟨vb, voff, none⟩) 1 vcap] w fun r w' => ∃ v', r = .returned v' ∧ w'.ownsRow w.heap.size 31 (Ty.size (Ty.cons Ty.str (Ty.cons Ty.str (Ty.cons Ty.str Ty.unit)))) v' (xs.length + 1) (fcs (Ty.cons Ty.str (Ty.cons Ty.str (Ty.cons Ty.str Ty.unit))) (xs ++ ys)) ∧ Below w.heap.size w w' := by
  have mixed := mixed
  obtain ⟨i0, z, hi0, hz1, hz0, hzc, hzm, by', hb1, hb2, hb3⟩ := info48
  have hvl : (fcs (Ty.cons Ty.str (Ty.cons Ty.str (Ty.cons Ty.str Ty.unit))) ys).length = 1 * 3 := by
    have := fcs_length (t := (Ty.cons Ty.str (Ty.cons Ty.str (Ty.cons Ty.str Ty.unit)))) rfl (xs := ys) hB.wf
    rw [this, h1]; rfl
  have hcl : (fcs (Ty.cons Ty.str (Ty.cons Ty.str (Ty.cons Ty.str Ty.unit))) xs).length = xs.length * 3 := fcs_length (t := (Ty.cons Ty.str (Ty.cons Ty.str (Ty.cons Ty.str Ty.unit)))) rfl hw
  obtain ⟨vs, hvs⟩ : ∃ vs, vs = fcs (Ty.cons Ty.str (Ty.cons Ty.str (Ty.cons Ty.str Ty.unit))) ys := ⟨_, rfl⟩
  obtain ⟨cs, hcss⟩ : ∃ cs, cs = fcs (Ty.cons Ty.str (Ty.cons Ty.str (Ty.cons Ty.str Ty.unit))) xs := ⟨_, rfl⟩
  have hvc : ∀ (j : Nat) (u : Value), vs[j]? = some u → w.cell? ⟨vb, voff + j, none⟩ = some u := fun j u hj => hB.cell j u (by rw [← hvs]; exact hj)
  rw [fcs_append, ← hvs, ← hcss]
  rw [← hvs] at hvl
  rw [← hcss] at hcl hcs
  have s2 : ∀ u ∈ vs, u.oneCell' = true := by rw [hvs]; exact fcells_ones rfl _
  have hsrc : Src Tryd.prog i0.size 22 (.slice (some ⟨vb, voff, none⟩) 1 vcap) 1 vs w := by
    rw [hz1]
    exact Src.ofSlice w Tryd.underlying22 ⟨vb, voff, none⟩ 1 vcap vs hvl (fun j u hj => by rw [Addr.add_lit]; exact hvc j u hj) s2
  have hold : (Builtin.firstCells i0.size xs.length (.slice ad xs.length cap)).run Tryd.prog w.drew = .ok cs.toArray w.drew := by
    rw [hz1]
    cases ad with
    | none =>
      have h0 := hnil rfl
      subst h0
      rw [List.length_eq_zero_iff.1 (show cs.length = 0 by rw [hcl]; simp)]
      exact run_firstCells_none w.drew 3 0 0 cap
    | some a => exact run_firstCells_some w.drew 3 xs.length a xs.length cap cs hcl (fun j v hj => hcs a rfl j v hj)
  have hbig : (xs.length + 1) * i0.bytes ≤ 140737488355328 := by
    have : (xs.length + 1) * i0.bytes ≤ 1048577 * i0.bytes := Nat.mul_le_mul_right _ (by omega)
    rw [Nat.mul_comm 1048577] at this
    omega
  have hrun : ∀ ty, (Builtin.append_ #[22, 22] ty #[.slice ad xs.length cap, .slice (some ⟨vb, voff, none⟩) 1 vcap]).run Tryd.prog w = _ := fun ty =>
    run_append_grow_src w 22 22 ty 31 i0 z Tryd.underlying22 hi0 hz0 ad xs.length cap cs hold _ 1 vs hsrc hroom (by omega) (growslice_fits hroom hbig)
  have hge := grownCap_ge w (xs.length + 1) cap 31
  have hgm := grownCap_le_maxLen w (xs.length + 1) cap 31 (by unfold maxLen; omega)
  have fin : ∀ G, xs.length + 1 ≤ G → G ≤ maxLen → (w.drew.alloc (.cells ((cs ++ vs).toArray ++ Builtin.zeroCells z.cells (G - (xs.length + 1))) 31)).ownsRow w.heap.size 31 (Ty.size (Ty.cons Ty.str (Ty.cons Ty.str (Ty.cons Ty.str Ty.unit)))) (.slice (some ⟨w.heap.size, 0, none⟩) (xs.length + 1) G) (xs.length + 1) (cs ++ vs) ∧ Below w.heap.size w (w.drew.alloc (.cells ((cs ++ vs).toArray ++ Builtin.zeroCells z.cells (G - (xs.length + 1))) 31)) := fun G g1 g2 => by
    have el : (cs ++ vs).length = (xs.length + 1) * 3 := by rw [List.length_append, hcl, hvl, Nat.add_mul]
    refine ⟨⟨el, .inr ⟨w.heap.size, G, _, rfl, Nat.le_refl _, heap_alloc_new w.drew _, g1, g2, ?_, ?_⟩⟩, ((Below.refl w.heap.size w).drew).alloc (Nat.le_refl _) _⟩
    · have hz : (Builtin.zeroCells z.cells (G - (xs.length + 1))).size = (G - (xs.length + 1)) * 3 := by
        rw [← Array.length_toList, hzc, zeroCells_k]; simp [dcells]
      rw [Array.size_append, List.size_toArray, el, hz]
      show _ = G * 3
      rw [← Nat.add_mul]; congr 1; omega
    · rw [Array.toList_append]
      have : ((cs ++ vs).toArray.toList ++ (Builtin.zeroCells z.cells (G - (xs.length + 1))).toList).take ((cs ++ vs).length) = cs ++ vs := List.take_left
      rw [el] at this
      exact this
  obtain ⟨G, hG⟩ : ∃ G, G = grownCap w (xs.length + 1) cap 31 := ⟨_, rfl⟩
  rw [← hG] at hrun hge hgm
  have fin := fin G hge hgm
  have F : Aside (_ ∧ _) := fin
  obtain ⟨ROW, hROW⟩ : ∃ ROW, ROW = (cs ++ vs).toArray ++ Builtin.zeroCells z.cells (G - (xs.length + 1)) := ⟨_, rfl⟩
  rw [← hROW] at hrun F
  clear fin hold hROW hG hcs hsrc hvc hvs hcss s2 hz0 hzc hzm hB
  go_enter Tryd.func48, Tryd.ntmps48
  cases ad with
  | none =>
    have h0 := hnil rfl
    subst h0
    go_wp2_with (at_builtin; refine Lib.wpList_append_run _ rfl _ _ _ _ rfl _ _ rfl rfl _ _ (hrun _) ?_)
    go_ret
    exact ⟨_, rfl, F.out.1, F.out.2⟩
  | some a =>
    obtain ⟨ab, ao, asp⟩ := a
    go_wp2_with (at_builtin; refine Lib.wpList_append_run _ rfl _ _ _ _ rfl _ _ rfl rfl _ _ (hrun _) ?_)
    all_goals (go_ret; exact ⟨_, rfl, F.out.1, F.out.2⟩)

open Go.RowKit in
set_option maxHeartbeats 8000000 in
theorem shift48 (w : World) (xs ys : List (ByteArray × ByteArray × ByteArray × Unit)) (b off cap : Nat) (cur : Array Value) (ty : TypeId) (fz : Nat × Nat) (vb voff vcap : Nat) (vcur : Array Value) (vty : TypeId) (vfz : Nat × Nat) (i : Nat) (hA : OwnAt w (Ty.cons Ty.str (Ty.cons Ty.str (Ty.cons Ty.str Ty.unit))) xs b off cap cur ty fz) (hB : OwnAt w (Ty.cons Ty.str (Ty.cons Ty.str (Ty.cons Ty.str Ty.unit))) ys vb voff vcap vcur vty vfz) (h1 : ys.length = 1) (hvb : vb ≠ b) (hi : i < xs.length) (hroom : xs.length + 1 ≤ cap) :
      Calls Tryd.prog 48 #[.slice (some ⟨b, off, none⟩) xs.length cap, .int .i64 i, .slice (some ⟨vb, voff, none⟩) 1 vcap] w fun r w' => r = .returned (.slice (some ⟨b, off, none⟩) (xs.length + 1) cap) ∧
        ∃ q, w' = ((w.drewN q).setCells b (off + (i + 1) * Ty.size (Ty.cons Ty.str (Ty.cons Ty.str (Ty.cons Ty.str Ty.unit)))) (fcs (Ty.cons Ty.str (Ty.cons Ty.str (Ty.cons Ty.str Ty.unit))) (xs.drop i))).setCells b (off + i * Ty.size (Ty.cons Ty.str (Ty.cons Ty.str (Ty.cons Ty.str Ty.unit)))) (fcs (Ty.cons Ty.str (Ty.cons Ty.str (Ty.cons Ty.str Ty.unit))) ys) := by
  have mixed := mixed
  obtain ⟨i0, z, hi0, hz1, hz0, hzc, hzm, _⟩ := info48
  have hlen := hA.len
  have hcapm := hA.capm
  have hvl : (fcs (Ty.cons Ty.str (Ty.cons Ty.str (Ty.cons Ty.str Ty.unit))) ys).length = 1 * 3 := by
    have := fcs_length (t := (Ty.cons Ty.str (Ty.cons Ty.str (Ty.cons Ty.str Ty.unit)))) rfl (xs := ys) hB.wf
    rw [this, h1]; rfl
  have hdl : (fcs (Ty.cons Ty.str (Ty.cons Ty.str (Ty.cons Ty.str Ty.unit))) (xs.drop i)).length = (xs.length - i) * 3 := by
    have := fcs_length (t := (Ty.cons Ty.str (Ty.cons Ty.str (Ty.cons Ty.str Ty.unit)))) rfl (xs := xs.drop i) (fun x hx => hA.wf x (List.mem_of_mem_drop hx))
    rw [this, List.length_drop]; rfl
  have hdc : ∀ (k : Nat) (u : Value), (fcs (Ty.cons Ty.str (Ty.cons Ty.str (Ty.cons Ty.str Ty.unit))) (xs.drop i))[k]? = some u → w.cell? ⟨b, off + i * 3 + k, none⟩ = some u := fun k u hk => by
    have := hA.cell _ _ (fcs_drop rfl hA.wf i (by omega) k u hk)
    rwa [Nat.add_assoc]
  obtain ⟨vs, hvs⟩ : ∃ vs, vs = fcs (Ty.cons Ty.str (Ty.cons Ty.str (Ty.cons Ty.str Ty.unit))) ys := ⟨_, rfl⟩
  obtain ⟨ds, hds⟩ : ∃ ds, ds = fcs (Ty.cons Ty.str (Ty.cons Ty.str (Ty.cons Ty.str Ty.unit))) (xs.drop i) := ⟨_, rfl⟩
  have hvc : ∀ (j : Nat) (u : Value), vs[j]? = some u → w.cell? ⟨vb, voff + j, none⟩ = some u := fun j u hj => hB.cell j u (by rw [← hvs]; exact hj)
  have s1 : ∀ u ∈ ds, u.oneCell' = true := by rw [hds]; exact fcells_ones rfl _
  have s2 : ∀ u ∈ vs, u.oneCell' = true := by rw [hvs]; exact fcells_ones rfl _
  rw [← hvs] at hvl ⊢
  rw [← hds] at hdl hdc ⊢
  have hle : (xs.length + 1) * 3 ≤ cap * 3 := Nat.mul_le_mul_right _ hroom
  have A0 : ∀ k, k < cap * 3 → (w.cell? ⟨b, off + k, none⟩).isSome = true ∧ w.frozen? ⟨b, off + k, none⟩ = false := fun k hk => ⟨hA.some' k hk, hA.unfrozen k hk⟩
  have hsb : w.shape? b = some (ty, cur.size) := by simp only [World.shape?, hA.blk]
  have hsa : w.shape? vb = some (vty, vcur.size) := by simp only [World.shape?, hB.blk]
  have hkB : cur.size ≠ 0 := by have := hA.fit; simp only [show Ty.size (Ty.cons Ty.str (Ty.cons Ty.str (Ty.cons Ty.str Ty.unit))) = 3 from rfl] at this; omega
  have hfa : w.frozen? ⟨vb, voff, none⟩ = false := by have := hB.unfrozen 0 (by have := hB.len; simp only [show Ty.size (Ty.cons Ty.str (Ty.cons Ty.str (Ty.cons Ty.str Ty.unit))) = 3 from rfl]; omega); exact this
  have hfe : w.frozen? ⟨vb, vcur.size, none⟩ = false := frozen_end48 hB
  have hov : ∀ lb cb, (callFunc 64 #[.slice (some ⟨vb, voff, none⟩) 1 vcap, .slice (some ⟨b, off + (i + 1) * 3, none⟩) lb cb]).run Tryd.prog w = .ok (.value (.bool false)) w := fun lb cb => by
    rw [run_callFunc_extern Tryd.func64 (by kernel_rfl) (by kernel_rfl) (by kernel_rfl) (e := Extern.SlicesOverlaps.overlaps #[22, 22] #[4]) (by kernel_rfl),
      Lib.run_overlaps_apart w 22 4 31 Tryd.underlying22 3 (fun w => by simp [Go.sizeOf, typeInfo, hi0, hz1]) ⟨vb, voff, none⟩ ⟨b, off + (i + 1) * 3, none⟩ 1 vcap lb cb hvb vty ty vcur.size cur.size hsa hsb hkB hfa hfe]
    rfl
  have e1 : (i + 1) * 3 + (xs.length - i) * 3 = xs.length * 3 + 3 := by rw [← Nat.add_mul, ← Nat.succ_mul]; congr 1; omega
  have e2 : (i + 1) * 3 = i * 3 + 3 := Nat.succ_mul _ _
  have hcp1 : ∀ ty dc sc, (Builtin.copy_ #[22, 22] ty #[.slice (some ⟨b, off + (i + 1) * 3, none⟩) (xs.length - i) dc, .slice (some ⟨b, off + i * 3, none⟩) (xs.length + 1 - i) sc]).run Tryd.prog w.drew = .ok (goInt (Nat.min (xs.length + 1 - i) (xs.length - i))) (w.drew.setCells b (off + (i + 1) * 3) ds) := fun ty dc sc =>
    run_copy_k w.drew _ _ ty 31 3 b (off + (i + 1) * 3) (xs.length - i) dc ⟨b, off + i * 3, none⟩ (xs.length + 1 - i) sc ds Tryd.underlying22 hzm (by rw [hdl]; congr 1; simp only [Nat.min_def]; split <;> omega)
      (fun j v hj => by rw [Addr.add_lit]; exact hdc j v hj)
      (fun j hj => by rw [Nat.add_assoc]; exact (A0 _ (by omega)).1) (fun j hj => by rw [Nat.add_assoc]; exact (A0 _ (by omega)).2) s1
  obtain ⟨W1, hW1⟩ : ∃ W1, W1 = w.drew.setCells b (off + (i + 1) * 3) ds := ⟨_, rfl⟩
  have hcp2 : ∀ (W : World), (∀ x, W.cell? x = W1.cell? x) → (∀ x, W.frozen? x = W1.frozen? x) → ∀ ty dc, (Builtin.copy_ #[22, 22] ty #[.slice (some ⟨b, off + i * 3, none⟩) (xs.length + 1 - i) dc, .slice (some ⟨vb, voff, none⟩) 1 vcap]).run Tryd.prog W = .ok (goInt (Nat.min 1 (xs.length + 1 - i))) (W.setCells b (off + i * 3) vs) := fun W hWc hWf ty dc =>
    run_copy_k W _ _ ty 31 3 b (off + i * 3) (xs.length + 1 - i) dc ⟨vb, voff, none⟩ 1 vcap vs Tryd.underlying22 hzm (by rw [hvl]; congr 1; simp only [Nat.min_def]; split <;> omega)
      (fun j v hj => by
        rw [Addr.add_lit, hWc, hW1, World.cell?_setCells_out b _ _ _ _ (fun h _ => absurd h hvb)]
        exact hvc j v hj)
      (fun j hj => by rw [hWc, hW1]; exact isSome_put _ _ _ _ _ (by rw [Nat.add_assoc]; exact (A0 _ (by omega)).1)) (fun j hj => by rw [hWf, hW1, World.frozen?_setCells, Nat.add_assoc]; exact (A0 _ (by omega)).2) s2
  have N : Aside (W1 = w.drew.setCells b (off + (i + 1) * 3) ds) := hW1
  rw [← hW1] at hcp1
  have hz2 : ¬ ((i : Int) = (xs.length : Int)) := by omega
  have hw1 : IntKind.i64.wrap ((i : Int) + 1) = (i : Int) + 1 := by unfold maxLen at hcapm; rw [IntKind.wrap_i64]; omega
  have hw2 : IntKind.i64.wrap ((xs.length : Int) + 1) = (xs.length : Int) + 1 := by unfold maxLen at hcapm; rw [IntKind.wrap_i64]; omega
  have hb1 : (0 : Int) ≤ (i : Int) + 1 := by omega
  have hin : i ≤ xs.length := by omega
  have htn : ((i : Int) + 1).toNat = i + 1 := by omega
  have htn2 : ((xs.length : Int) + 1).toNat = xs.length + 1 := by omega
  have hb2 : ¬ (cap = i + 1) := by omega
  have hb3 : (i : Int) ≤ (xs.length : Int) + 1 := by omega
  have hb4 : ¬ (cap = i) := by omega
  have hb5 : ¬ ((cap : Int) < (xs.length : Int) + 1) := by omega
  clear hW1 s1 s2 hvc hvs hds hdc hdl hvl A0 hsb hsa hkB hfa hfe hzc hz0 hA hB e1 e2
  go_enter Tryd.func48, Tryd.ntmps48
  go_wp2_with (simp only [hov])
  go_region_law_o (refine scp48 rfl _ _ 22 22 rfl _ _ (by simp [Act.eval, Act.put]) (by simp [Act.eval, Act.put]) (hcp1 _ _ _) ?_)
  go_wp2_with (at_builtin; refine lcp48 _ rfl _ _ 22 22 rfl _ _ rfl rfl (hcp2 _ (fun _ => rfl) (fun _ => rfl) _ _) ?_)
  go_ret
  exact ⟨rfl, 1, by rw [N.out]; rfl⟩

open Go.RowKit in
set_option maxHeartbeats 8000000 in
theorem grow48 (w : World) (xs ys : List (ByteArray × ByteArray × ByteArray × Unit)) (b off cap : Nat) (cur : Array Value) (ty : TypeId) (fz : Nat × Nat) (vb voff vcap : Nat) (vcur : Array Value) (vty : TypeId) (vfz : Nat × Nat) (i : Nat) (hA : OwnAt w (Ty.cons Ty.str (Ty.cons Ty.str (Ty.cons Ty.str Ty.unit))) xs b off cap cur ty fz) (hB : OwnAt w (Ty.cons Ty.str (Ty.cons Ty.str (Ty.cons Ty.str Ty.unit))) ys vb voff vcap vcur vty vfz) (h1 : ys.length = 1) (hvb : vb ≠ b) (hi : i < xs.length) (hroom : cap < xs.length + 1) (hmax : xs.length ≤ 1048576) :
      Calls Tryd.prog 48 #[.slice (some ⟨b, off, none⟩) xs.length cap, .int .i64 i, .slice (some ⟨vb, voff, none⟩) 1 vcap] w fun r w' => ∃ v', r = .returned v' ∧ w'.ownsRow w.heap.size 31 (Ty.size (Ty.cons Ty.str (Ty.cons Ty.str (Ty.cons Ty.str Ty.unit)))) v' (xs.length + 1) (fcs (Ty.cons Ty.str (Ty.cons Ty.str (Ty.cons Ty.str Ty.unit))) (xs.take i ++ (ys ++ xs.drop i))) ∧ Below w.heap.size w w' := by
  have mixed := mixed
  obtain ⟨i0, z, hi0, hz1, hz0, hzc, hzm, by', hb1, hb2, hb3⟩ := info48
  have hlen := hA.len
  have hcapm := hA.capm
  have hvl : (fcs (Ty.cons Ty.str (Ty.cons Ty.str (Ty.cons Ty.str Ty.unit))) ys).length = 1 * 3 := by
    have := fcs_length (t := (Ty.cons Ty.str (Ty.cons Ty.str (Ty.cons Ty.str Ty.unit)))) rfl (xs := ys) hB.wf
    rw [this, h1]; rfl
  have hdl : (fcs (Ty.cons Ty.str (Ty.cons Ty.str (Ty.cons Ty.str Ty.unit))) (xs.drop i)).length = (xs.length - i) * 3 := by
    have := fcs_length (t := (Ty.cons Ty.str (Ty.cons Ty.str (Ty.cons Ty.str Ty.unit)))) rfl (xs := xs.drop i) (fun x hx => hA.wf x (List.mem_of_mem_drop hx))
    rw [this, List.length_drop]; rfl
  have htl : (fcs (Ty.cons Ty.str (Ty.cons Ty.str (Ty.cons Ty.str Ty.unit))) (xs.take i)).length = i * 3 := by
    have := fcs_length (t := (Ty.cons Ty.str (Ty.cons Ty.str (Ty.cons Ty.str Ty.unit)))) rfl (xs := xs.take i) (fun x hx => hA.wf x (List.mem_of_mem_take hx))
    rw [this, List.length_take, Nat.min_eq_left (by omega)]; rfl
  have hdc : ∀ (k : Nat) (u : Value), (fcs (Ty.cons Ty.str (Ty.cons Ty.str (Ty.cons Ty.str Ty.unit))) (xs.drop i))[k]? = some u → w.cell? ⟨b, off + i * 3 + k, none⟩ = some u := fun k u hk => by
    have := hA.cell _ _ (fcs_drop rfl hA.wf i (by omega) k u hk)
    rwa [Nat.add_assoc]
  have htc : ∀ (k : Nat) (u : Value), (fcs (Ty.cons Ty.str (Ty.cons Ty.str (Ty.cons Ty.str Ty.unit))) (xs.take i))[k]? = some u → w.cell? ⟨b, off + k, none⟩ = some u := fun k u hk => hA.cell _ _ (fcs_take rfl hA.wf i k u hk)
  have hbw := hA.lt
  have hvw := hB.lt
  obtain ⟨vs, hvs⟩ : ∃ vs, vs = fcs (Ty.cons Ty.str (Ty.cons Ty.str (Ty.cons Ty.str Ty.unit))) ys := ⟨_, rfl⟩
  obtain ⟨ds, hds⟩ : ∃ ds, ds = fcs (Ty.cons Ty.str (Ty.cons Ty.str (Ty.cons Ty.str Ty.unit))) (xs.drop i) := ⟨_, rfl⟩
  obtain ⟨ts, hts⟩ : ∃ ts, ts = fcs (Ty.cons Ty.str (Ty.cons Ty.str (Ty.cons Ty.str Ty.unit))) (xs.take i) := ⟨_, rfl⟩
  have hvc : ∀ (j : Nat) (u : Value), vs[j]? = some u → w.cell? ⟨vb, voff + j, none⟩ = some u := fun j u hj => hB.cell j u (by rw [← hvs]; exact hj)
  have s1 : ∀ u ∈ ds, u.oneCell' = true := by rw [hds]; exact fcells_ones rfl _
  have s2 : ∀ u ∈ vs, u.oneCell' = true := by rw [hvs]; exact fcells_ones rfl _
  rw [fcs_append, fcs_append, ← hvs, ← hds, ← hts]
  rw [← hvs] at hvl
  rw [← hds] at hdl hdc
  rw [← hts] at htl htc
  have hbig : (xs.length + 1) * i0.bytes ≤ 140737488355328 := by
    have : (xs.length + 1) * i0.bytes ≤ 1048577 * i0.bytes := Nat.mul_le_mul_right _ (by omega)
    rw [Nat.mul_comm 1048577] at this
    omega
  have hkk : (xs.length : Int) + 1 - (i : Int) = ((xs.length + 1 - i : Nat) : Int) := by omega
  have hik : i + (xs.length + 1 - i) = xs.length + 1 := by omega
  have hold : (Builtin.firstCells i0.size i (.slice (some ⟨b, off, none⟩) i cap)).run Tryd.prog w.drew = .ok ts.toArray w.drew := by
    rw [hz1]
    exact run_firstCells_some w.drew 3 i ⟨b, off, none⟩ i cap ts htl (fun j v hj => by rw [Addr.add_lit]; exact htc j v hj)
  have h48 : (xs.length + 1 - i) * i0.bytes ≤ 281474976710656 := by
    have : (xs.length + 1 - i) * i0.bytes ≤ (xs.length + 1) * i0.bytes := Nat.mul_le_mul_right _ (by omega)
    omega
  have hrz : ∀ ty, (Builtin.append_ #[22, 3] ty #[.slice (some ⟨b, off, none⟩) i cap, .int .i64 ((xs.length : Int) + 1 - (i : Int))]).run Tryd.prog w =
      .ok (.slice (some ⟨w.heap.size, 0, none⟩) (xs.length + 1) (grownCap w (xs.length + 1) cap 31)) (w.drew.alloc (.cells (ts.toArray ++ Builtin.zeroCells z.cells (xs.length + 1 - i) ++ Builtin.zeroCells z.cells (grownCap w (xs.length + 1) cap 31 - (xs.length + 1))) 31)) := fun ty => by
    have h := Lib.run_append_grow_zeros w 22 3 ty 31 i0 z .i64 .i64 Tryd.underlying22 Tryd.underlying3 hi0 hz0 (some ⟨b, off, none⟩) i cap ts hold (xs.length + 1 - i) (by omega) (by omega) (by omega) (by omega) h48 (by rw [hik]; exact growslice_fits hroom hbig)
    rw [hik] at h
    rw [hkk]
    exact h
  have hge := grownCap_ge w (xs.length + 1) cap 31
  have hgm := grownCap_le_maxLen w (xs.length + 1) cap 31 (by unfold maxLen; omega)
  obtain ⟨G, hG⟩ : ∃ G, G = grownCap w (xs.length + 1) cap 31 := ⟨_, rfl⟩
  rw [← hG] at hrz hge hgm
  obtain ⟨ROW, hROW⟩ : ∃ ROW : Array Value, ROW = ts.toArray ++ Builtin.zeroCells z.cells (xs.length + 1 - i) ++ Builtin.zeroCells z.cells (G - (xs.length + 1)) := ⟨_, rfl⟩
  rw [← hROW] at hrz
  have hzs : ∀ k, (Builtin.zeroCells z.cells k).size = k * 3 := fun k => by
    rw [← Array.length_toList, hzc, zeroCells_k]; simp [dcells]
  have hRs : ROW.size = G * 3 := by
    rw [hROW, Array.size_append, Array.size_append, List.size_toArray, htl, hzs, hzs, ← Nat.add_mul, hik, ← Nat.add_mul]
    congr 1; omega
  have hRt : ∀ (k : Nat) (u : Value), ts[k]? = some u → ROW[k]? = some u := fun k u hk => by
    have hlt := (List.getElem?_eq_some_iff.1 hk).1
    rw [hROW, Array.append_assoc, Array.getElem?_append_left (by simpa using hlt)]
    simpa using hk
  have hmul : (xs.length + 1) * 3 ≤ G * 3 := Nat.mul_le_mul_right _ hge
  obtain ⟨W1, hW1⟩ : ∃ W1, W1 = w.drew.alloc (.cells ROW 31) := ⟨_, rfl⟩
  rw [← hW1] at hrz
  have hblk : W1.heap[w.heap.size]? = some (.cells ROW 31 (0, 0)) := by rw [hW1]; exact heap_alloc_new w.drew _
  have hN : ∀ j, j < G * 3 → (W1.cell? ⟨w.heap.size, j, none⟩).isSome = true := fun j hj => by
    simp only [World.cell?, hblk]; rw [Array.getElem?_eq_getElem (by omega)]; rfl
  have hNf : ∀ j, W1.frozen? ⟨w.heap.size, j, none⟩ = false := fun j => by
    simp only [World.frozen?, hblk]; simp
  have hOld : ∀ k, k < w.heap.size → W1.heap[k]? = w.heap[k]? := fun k hk => by rw [hW1]; exact heap_alloc_old w.drew _ hk
  have hOb : ∀ j v, w.cell? ⟨b, j, none⟩ = some v → W1.cell? ⟨b, j, none⟩ = some v := fun j v h => by simp only [World.cell?] at h ⊢; rw [hOld b hbw]; exact h
  have hOv : ∀ j v, w.cell? ⟨vb, j, none⟩ = some v → W1.cell? ⟨vb, j, none⟩ = some v := fun j v h => by simp only [World.cell?] at h ⊢; rw [hOld vb hvw]; exact h
  have hbN : b ≠ w.heap.size := by omega
  have e2 : (i + 1) * 3 = i * 3 + 3 := Nat.succ_mul _ _
  have e1 : (i + 1) * 3 + (xs.length - i) * 3 = (xs.length + 1) * 3 := by rw [← Nat.add_mul]; congr 1; omega
  have hcpA : ∀ (W : World), (∀ x, W.cell? x = W1.cell? x) → (∀ x, W.frozen? x = W1.frozen? x) → ∀ ty dc, (Builtin.copy_ #[22, 22] ty #[.slice (some ⟨w.heap.size, i * 3, none⟩) (xs.length + 1 - i) dc, .slice (some ⟨vb, voff, none⟩) 1 vcap]).run Tryd.prog W = .ok (goInt (Nat.min 1 (xs.length + 1 - i))) (W.setCells w.heap.size (i * 3) vs) := fun W hWc hWf ty dc =>
    run_copy_k W _ _ ty 31 3 w.heap.size (i * 3) (xs.length + 1 - i) dc ⟨vb, voff, none⟩ 1 vcap vs Tryd.underlying22 hzm (by rw [hvl]; congr 1; simp only [Nat.min_def]; split <;> omega)
      (fun j v hj => by rw [Addr.add_lit, hWc]; exact hOv _ v (hvc j v hj))
      (fun j hj => by rw [hWc]; exact hN _ (by omega)) (fun j hj => by rw [hWf]; exact hNf _) s2
  have hcpB : ∀ (W : World), (∀ x, W.cell? x = (W1.setCells w.heap.size (i * 3) vs).cell? x) → (∀ x, W.frozen? x = (W1.setCells w.heap.size (i * 3) vs).frozen? x) → ∀ ty dc sc, (Builtin.copy_ #[22, 22] ty #[.slice (some ⟨w.heap.size, (i + 1) * 3, none⟩) (xs.length - i) dc, .slice (some ⟨b, off + i * 3, none⟩) (xs.length - i) sc]).run Tryd.prog W = .ok (goInt (Nat.min (xs.length - i) (xs.length - i))) (W.setCells w.heap.size ((i + 1) * 3) ds) := fun W hWc hWf ty dc sc =>
    run_copy_k W _ _ ty 31 3 w.heap.size ((i + 1) * 3) (xs.length - i) dc ⟨b, off + i * 3, none⟩ (xs.length - i) sc ds Tryd.underlying22 hzm (by rw [hdl]; congr 1; simp only [Nat.min_def]; split <;> omega)
      (fun j v hj => by
        rw [Addr.add_lit, hWc, World.cell?_setCells_out _ _ _ _ _ (fun h _ => absurd h hbN)]
        exact hOb _ v (hdc j v hj))
      (fun j hj => by rw [hWc]; exact isSome_put _ _ _ _ _ (hN _ (by omega)))
      (fun j hj => by rw [hWf, World.frozen?_setCells]; exact hNf _) s1
  -- what the new row holds at the end
  have fin : ∀ q1 q2 : Nat, (((W1.drewN q1).setCells w.heap.size (i * 3) vs).drewN q2 |>.setCells w.heap.size ((i + 1) * 3) ds).ownsRow w.heap.size 31 (Ty.size (Ty.cons Ty.str (Ty.cons Ty.str (Ty.cons Ty.str Ty.unit)))) (.slice (some ⟨w.heap.size, 0, none⟩) (xs.length + 1) G) (xs.length + 1) (ts ++ (vs ++ ds)) ∧
      Below w.heap.size w (((W1.drewN q1).setCells w.heap.size (i * 3) vs).drewN q2 |>.setCells w.heap.size ((i + 1) * 3) ds) := fun q1 q2 => by
    have el : (ts ++ (vs ++ ds)).length = (xs.length + 1) * 3 := by
      rw [List.length_append, List.length_append, htl, hvl, hdl, ← Nat.add_mul, ← Nat.add_mul]; congr 1; omega
    have l1 : i * 3 + vs.length ≤ ROW.size := by rw [hvl, hRs]; omega
    obtain ⟨c1, g1, g2, g3, g4, g5, g6⟩ := setCells_block vs (show (W1.drewN q1).heap[w.heap.size]? = some (.cells ROW 31 (0, 0)) from hblk) l1
    have l2 : (i + 1) * 3 + ds.length ≤ c1.size := by rw [hdl, g2, hRs]; omega
    obtain ⟨c2, k1, k2, k3, k4, k5, k6⟩ := setCells_block ds (show (((W1.drewN q1).setCells w.heap.size (i * 3) vs).drewN q2).heap[w.heap.size]? = some (.cells c1 31 (0, 0)) from g1) l2
    have kA := setCells_kept vs (show (W1.drewN q1).heap[w.heap.size]? = some (.cells ROW 31 (0, 0)) from hblk) l1
    have kB := setCells_kept ds (show (((W1.drewN q1).setCells w.heap.size (i * 3) vs).drewN q2).heap[w.heap.size]? = some (.cells c1 31 (0, 0)) from g1) l2
    have kAll : Kept [w.heap.size] w (((W1.drewN q1).setCells w.heap.size (i * 3) vs).drewN q2 |>.setCells w.heap.size ((i + 1) * 3) ds) := by
      have k0 : Kept [w.heap.size] w W1 := by rw [hW1]; exact ((Kept.refl _ w).drew).alloc _
      have k1 : Kept [w.heap.size] W1 (W1.drewN q1) := ⟨rfl, rfl, rfl, Nat.le_refl _, fun _ _ _ => rfl⟩
      have k2 : Kept [w.heap.size] ((W1.drewN q1).setCells w.heap.size (i * 3) vs) (((W1.drewN q1).setCells w.heap.size (i * 3) vs).drewN q2) := ⟨rfl, rfl, rfl, Nat.le_refl _, fun _ _ _ => rfl⟩
      exact ((k0.trans k1).trans (kA.trans k2)).trans kB
    refine ⟨⟨el, .inr ⟨w.heap.size, G, c2, rfl, Nat.le_refl _, k1, hge, hgm, by rw [k2, g2, hRs]; rfl, ?_⟩⟩, ⟨kAll.os, kAll.tape, kAll.output, kAll.size, fun k hk => kAll.block k hk (by simp; omega)⟩⟩
    apply List.ext_getElem?
    intro k
    rw [List.getElem?_take]
    by_cases hk : k < (xs.length + 1) * 3
    · rw [if_pos (show k < (xs.length + 1) * Ty.size (Ty.cons Ty.str (Ty.cons Ty.str (Ty.cons Ty.str Ty.unit))) from hk), Array.getElem?_toList]
      have hk' : k < (ts ++ (vs ++ ds)).length := by rw [el]; exact hk
      obtain ⟨u, hu⟩ : ∃ u, (ts ++ (vs ++ ds))[k]? = some u := ⟨_, List.getElem?_eq_getElem hk'⟩
      rw [hu]
      by_cases h1 : k < i * 3
      · rw [List.getElem?_append_left (by omega)] at hu
        rw [k4 _ (.inl (by omega)), g4 _ (.inl (by omega))]
        exact hRt k u hu
      · rw [List.getElem?_append_right (by omega), htl] at hu
        by_cases h2 : k < i * 3 + 3
        · rw [List.getElem?_append_left (by omega)] at hu
          have := g3 _ u hu
          rw [k4 _ (.inl (by omega))]
          rwa [show i * 3 + (k - i * 3) = k by omega] at this
        · rw [List.getElem?_append_right (by omega), hvl] at hu
          have := k3 _ u hu
          rwa [show (i + 1) * 3 + (k - i * 3 - 1 * 3) = k by omega] at this
    · rw [if_neg (show ¬ k < (xs.length + 1) * Ty.size (Ty.cons Ty.str (Ty.cons Ty.str (Ty.cons Ty.str Ty.unit))) from hk), List.getElem?_eq_none (by rw [el]; omega)]
  have F : Aside (∀ q1 q2 : Nat, (((W1.drewN q1).setCells w.heap.size (i * 3) vs).drewN q2 |>.setCells w.heap.size ((i + 1) * 3) ds).ownsRow w.heap.size 31 (Ty.size (Ty.cons Ty.str (Ty.cons Ty.str (Ty.cons Ty.str Ty.unit)))) (.slice (some ⟨w.heap.size, 0, none⟩) (xs.length + 1) G) (xs.length + 1) (ts ++ (vs ++ ds)) ∧
      Below w.heap.size w (((W1.drewN q1).setCells w.heap.size (i * 3) vs).drewN q2 |>.setCells w.heap.size ((i + 1) * 3) ds)) := fin
  subst hW1
  have hE1 : ∀ x, ((w.alloc (.cells ROW 31)).drew).cell? x = (w.drew.alloc (.cells ROW 31)).cell? x := fun x => rfl
  have hE2 : ∀ x, ((w.alloc (.cells ROW 31)).drew).frozen? x = (w.drew.alloc (.cells ROW 31)).frozen? x := fun x => rfl
  have hF1 : ∀ x, (((w.alloc (.cells ROW 31)).drew.setCells w.heap.size (i * 3) vs).drew).cell? x = ((w.drew.alloc (.cells ROW 31)).setCells w.heap.size (i * 3) vs).cell? x := fun x => rfl
  have hF2 : ∀ x, (((w.alloc (.cells ROW 31)).drew.setCells w.heap.size (i * 3) vs).drew).frozen? x = ((w.drew.alloc (.cells ROW 31)).setCells w.heap.size (i * 3) vs).frozen? x := fun x => rfl
  have hz2 : ¬ ((i : Int) = (xs.length : Int)) := by omega
  have hw1 : IntKind.i64.wrap ((i : Int) + 1) = (i : Int) + 1 := by rw [IntKind.wrap_i64]; omega
  have hw2 : IntKind.i64.wrap ((xs.length : Int) + 1) = (xs.length : Int) + 1 := by rw [IntKind.wrap_i64]; omega
  have hw3 : IntKind.i64.wrap ((xs.length : Int) + 1 - (i : Int)) = (xs.length : Int) + 1 - (i : Int) := by rw [IntKind.wrap_i64]; omega
  have hb1 : (0 : Int) ≤ (i : Int) + 1 := by omega
  have hin : i ≤ xs.length := by omega
  have htn : ((i : Int) + 1).toNat = i + 1 := by omega
  have hGi : ¬ (G = i) := by omega
  have hGim : ¬ (G = i + 1) := by omega
  have hci : ¬ (cap = i) := by omega
  have hb3 : (i : Int) ≤ (xs.length : Int) := by omega
  have hb5 : (cap : Int) < (xs.length : Int) + 1 := by omega
  have hG63 : G ≤ 9223372036854775807 := by unfold maxLen at hgm; exact hgm
  clear hkk hik hold hROW hG hRs hRt hzs hN hNf hOld hOb hOv fin s1 s2 hvc hvs hds hts hdc htc hdl htl hvl hzc hz0 hA hB e1 e2 hmul hblk
  go_enter Tryd.func48, Tryd.ntmps48
  go_wp2_with (first
    | (at_builtin; refine Lib.wpList_append_run _ rfl _ _ _ _ rfl _ _ rfl rfl _ _ (hrz _) ?_)
    | (at_builtin; refine lcp48 _ rfl _ _ 22 22 rfl _ _ rfl rfl (hcpA _ hE1 hE2 _ _) ?_)
    | (at_builtin; refine lcp48 _ rfl _ _ 22 22 rfl _ _ rfl rfl (hcpB _ (fun _ => rfl) (fun _ => rfl) _ _ _) ?_))
  go_region_law_o (refine scp48 rfl _ _ 22 22 rfl (.slice (some ⟨w.heap.size, (i + 1) * 3, none⟩) (xs.length - i) (G - (i + 1))) (.slice (some ⟨b, off + i * 3, none⟩) (xs.length - i) (cap - i)) (by simp [Act.eval, Act.put]) (by simp [Act.eval, Act.put]) (hcpB _ hF1 hF2 3 (G - (i + 1)) (cap - i)) ?_)
  go_wp2
  go_ret
  exact ⟨_, rfl, (F.out 0 1).1, (F.out 0 1).2⟩

def sig48 : List AT := [AT.own (Ty.cons Ty.str (Ty.cons Ty.str (Ty.cons Ty.str Ty.unit))), AT.v (Ty.int .i64), AT.own (Ty.cons Ty.str (Ty.cons Ty.str (Ty.cons Ty.str Ty.unit)))]
def g48_0 (x0 : List (ByteArray × ByteArray × ByteArray × Unit)) (x1 : Int) (x2 : List (ByteArray × ByteArray × ByteArray × Unit)) : List (ByteArray × ByteArray × ByteArray × Unit) := x0.take x1.toNat ++ (x2 ++ x0.drop x1.toNat)
def P48 (x0 : List (ByteArray × ByteArray × ByteArray × Unit)) (x1 : Int) (x2 : List (ByteArray × ByteArray × ByteArray × Unit)) : Prop := 0 ≤ x1 ∧ x1 ≤ x0.length ∧ x2.length = 1 ∧ x0.length ≤ 1048576
def S48 : Am.Spec := { sig := sig48, pre := fun ⟨x0, x1, x2, _⟩ => P48 x0 x1 x2, upd := fun _ => [none, none], res := fun ⟨x0, x1, x2, _⟩ => [⟨Ty.sl (Ty.cons Ty.str (Ty.cons Ty.str (Ty.cons Ty.str Ty.unit))), g48_0 x0 x1 x2⟩] }
theorem con48 : Contract Tryd.prog 48 S48 := insert_contract (t := (Ty.cons Ty.str (Ty.cons Ty.str (Ty.cons Ty.str Ty.unit)))) (e := 31) rfl shift48 grow48 end48 last48

end Go.Proofs.YticibijneahllaaDoor

/- Function 30 (impl.putBlock): its runs between cut points. Written by a program of this repo (gen). -/
set_option linter.unusedVariables false
set_option linter.unusedSimpArgs false
set_option maxRecDepth 100000
namespace Go.Proofs.YticibijneahllaaDoor
open Go Go.Am Go.Proofs
def ext30 : Ext := [(46, S46), (47, S47), (48, S48)]
theorem call30_46 : Callable Tryd.prog 46 := ⟨Tryd.f46, Tryd.func46, by kernel_rfl, by kernel_rfl⟩
theorem call30_47 : Callable Tryd.prog 47 := ⟨Tryd.f47, Tryd.func47, by kernel_rfl, by kernel_rfl⟩
theorem call30_48 : Callable Tryd.prog 48 := ⟨Tryd.f48, Tryd.func48, by kernel_rfl, by kernel_rfl⟩
theorem ext30Ok : ExtOk Tryd.prog ext30 := ⟨⟨call30_46, con46⟩, ⟨call30_47, con47⟩, ⟨call30_48, con48⟩, trivial⟩
/-! Function 30. -/
noncomputable def b30 : Code := bodyOf Tryd.f30
theorem hb30 : Tryd.f30.body = some b30 := by kernel_rfl
def sig30 : List AT := [AT.v (Ty.sl (Ty.cons Ty.str (Ty.cons Ty.str (Ty.cons Ty.str Ty.unit)))), AT.v (Ty.cons Ty.str (Ty.cons Ty.str (Ty.cons Ty.str Ty.unit)))]
def tys30 : List Ty := [Ty.sl (Ty.cons Ty.str (Ty.cons Ty.str (Ty.cons Ty.str Ty.unit)))]
def P30 (x0 : List (ByteArray × ByteArray × ByteArray × Unit)) (x1 : ByteArray × ByteArray × ByteArray × Unit) : Prop := ((P46 x0) ∧ ((P47 (g46_0 x0) x1) ∧ (if (g47_1 (g46_0 x0) x1) = true then ((0 ≤ g47_0 (g46_0 x0) x1) ∧ (g47_0 (g46_0 x0) x1 < (↑(List.length (g46_0 x0)) : Int)) ∧ True) else ((P48 (g46_0 x0) (g47_0 (g46_0 x0) x1) [x1]) ∧ True))))
def g30_0 (x0 : List (ByteArray × ByteArray × ByteArray × Unit)) (x1 : ByteArray × ByteArray × ByteArray × Unit) : List (ByteArray × ByteArray × ByteArray × Unit) := (if (g47_1 (g46_0 x0) x1) = true then List.set (g46_0 x0) (Int.toNat (g47_0 (g46_0 x0) x1)) x1 else g48_0 (g46_0 x0) (g47_0 (g46_0 x0) x1) [x1])
theorem p30_0 (x0 : List (ByteArray × ByteArray × ByteArray × Unit)) (x1 : ByteArray × ByteArray × ByteArray × Unit) : runF tab ext30 false 27 [] 2000 [] tys30 Tryd.f30.results [true] [.code b30] (entE 0 0 sig30 (x0, x1, ())) (entL sig30 (x0, x1, ())) = some ([Dyn.mk (Ty.sl (Ty.cons Ty.str (Ty.cons Ty.str (Ty.cons Ty.str Ty.unit)))) (List.set (g46_0 x0) (Int.toNat (g47_0 (g46_0 x0) x1)) x1)], [], [P46 x0, P47 (g46_0 x0) x1, g47_1 (g46_0 x0) x1 = Bool.true, 0 ≤ g47_0 (g46_0 x0) x1, g47_0 (g46_0 x0) x1 < (↑(List.length (g46_0 x0)) : Int)]) := by kernel_rfl
theorem p30_1 (x0 : List (ByteArray × ByteArray × ByteArray × Unit)) (x1 : ByteArray × ByteArray × ByteArray × Unit) : runF tab ext30 false 27 [] 2000 [] tys30 Tryd.f30.results [false] [.code b30] (entE 0 0 sig30 (x0, x1, ())) (entL sig30 (x0, x1, ())) = some ([Dyn.mk (Ty.sl (Ty.cons Ty.str (Ty.cons Ty.str (Ty.cons Ty.str Ty.unit)))) (g48_0 (g46_0 x0) (g47_0 (g46_0 x0) x1) [x1])], [], [P46 x0, P47 (g46_0 x0) x1, g47_1 (g46_0 x0) x1 = Bool.false, P48 (g46_0 x0) (g47_0 (g46_0 x0) x1) [x1]]) := by kernel_rfl
theorem at30 (x0 : List (ByteArray × ByteArray × ByteArray × Unit)) (x1 : ByteArray × ByteArray × ByteArray × Unit) (h : P30 x0 x1) (w0 : World) (O : List Nat) (q : Nat → Value) : AtV Tryd.prog 30 (PostR [⟨Ty.sl (Ty.cons Ty.str (Ty.cons Ty.str (Ty.cons Ty.str Ty.unit))), g30_0 x0 x1⟩] [] [] q w0 O) 27 w0 O q [] [.code b30] (entE 0 0 sig30 (x0, x1, ())) (entL sig30 (x0, x1, ())) := by
  unfold P30 at h
  unfold g30_0
  obtain ⟨s0, h⟩ := h
  obtain ⟨s1, h⟩ := h
  by_cases b0 : (g47_1 (g46_0 x0) x1) = true
  · try simp only [if_pos b0] at h ⊢
    obtain ⟨s2, s3, h⟩ := h
    exact AtV.fin Tryd.func30 tabOk ext30Ok mixed (p30_0 x0 x1) ⟨s0, s1, b0, s2, s3, trivial⟩
  · try simp only [if_neg b0] at h ⊢
    replace b0 := Bool.eq_false_iff.2 b0
    obtain ⟨s2, h⟩ := h
    exact AtV.fin Tryd.func30 tabOk ext30Ok mixed (p30_1 x0 x1) ⟨s0, s1, b0, s2, trivial⟩

def S30 : Am.Spec := { sig := sig30, pre := fun ⟨x0, x1, _⟩ => P30 x0 x1, res := fun ⟨x0, x1, _⟩ => [⟨Ty.sl (Ty.cons Ty.str (Ty.cons Ty.str (Ty.cons Ty.str Ty.unit))), g30_0 x0 x1⟩] }
theorem con30 : Contract Tryd.prog 30 S30 := contract_of Tryd.func30 hb30 (Nat.le_of_ble_eq_true (by kernel_rfl)) (fun ⟨x0, x1, _⟩ h _ w0 O q => at30 x0 x1 h w0 O q)


theorem bsb30 (p : Nat → Bool) : ∀ (m i j : Nat), i ≤ j → i ≤ bsearch p m i j ∧ bsearch p m i j ≤ j
  | 0, i, j, h => ⟨Nat.le_refl _, h⟩
  | m + 1, i, j, h => by
    simp only [bsearch]
    split
    · split
      · have := bsb30 p m ((i + j) / 2 + 1) j (by omega); omega
      · have := bsb30 p m i ((i + j) / 2) (by omega); omega
    · omega

theorem atk30 (x0 : List (ByteArray × ByteArray × ByteArray × Unit)) (x1 : (ByteArray × ByteArray × ByteArray × Unit)) : 0 ≤ g47_0 x0 x1 ∧ g47_0 x0 x1 ≤ x0.length ∧ (g47_1 x0 x1 = true → g47_0 x0 x1 < x0.length) := by
  have := bsb30 (p63c45 x0 x1) (x0.length + 1) 0 x0.length (by omega)
  unfold g47_0 g47_1 g63c45_0 g63c45_1 f63c45
  unfold k63c45 at *
  refine ⟨by omega, by omega, fun h => ?_⟩
  split at h
  · omega
  · cases h

theorem pre30 (x0 : List (ByteArray × ByteArray × ByteArray × Unit)) (x1 : (ByteArray × ByteArray × ByteArray × Unit)) (hl : x0.length ≤ 1048576) : P30 x0 x1 := by
  obtain ⟨a1, a2, a3⟩ := atk30 x0 x1
  have p1 : P46 x0 := hl
  have p2 : P47 x0 x1 := ⟨(show x0.length ≤ 4611686018427387903 from by omega), trivial⟩
  unfold P30
  refine ⟨p1, p2, ?_⟩
  by_cases h : g47_1 (g46_0 x0) x1 = true
  · rw [if_pos h]
    exact ⟨a1, a3 h, trivial⟩
  · rw [if_neg h]
    exact ⟨⟨a1, a2, rfl, hl⟩, trivial⟩

theorem len30 (x0 : List (ByteArray × ByteArray × ByteArray × Unit)) (x1 : (ByteArray × ByteArray × ByteArray × Unit)) : (g30_0 x0 x1).length ≤ x0.length + 1 := by
  unfold g30_0
  by_cases h : g47_1 (g46_0 x0) x1 = true
  · rw [if_pos h]; simp [g46_0]
  · rw [if_neg h]
    unfold g48_0 g46_0
    simp only [List.length_append, List.length_take, List.length_drop, List.length_singleton]
    omega

end Go.Proofs.YticibijneahllaaDoor

/- Function 14 (impl.PutBlock): its runs between cut points. Written by a program of this repo (gen). -/
set_option linter.unusedVariables false
set_option linter.unusedSimpArgs false
set_option maxRecDepth 100000
namespace Go.Proofs.YticibijneahllaaDoor
open Go Go.Am Go.Proofs
def ext14 : Ext := [(29, S29), (27, S27), (30, S30)]
theorem call14_29 : Callable Tryd.prog 29 := ⟨Tryd.f29, Tryd.func29, by kernel_rfl, by kernel_rfl⟩
theorem call14_27 : Callable Tryd.prog 27 := ⟨Tryd.f27, Tryd.func27, by kernel_rfl, by kernel_rfl⟩
theorem call14_30 : Callable Tryd.prog 30 := ⟨Tryd.f30, Tryd.func30, by kernel_rfl, by kernel_rfl⟩
theorem ext14Ok : ExtOk Tryd.prog ext14 := ⟨⟨call14_29, con29⟩, ⟨call14_27, con27⟩, ⟨call14_30, con30⟩, trivial⟩
/-! Function 14. -/
noncomputable def b14 : Code := bodyOf Tryd.f14
theorem hb14 : Tryd.f14.body = some b14 := by kernel_rfl
def sig14 : List AT := [AT.v (Ty.sl (Ty.cons Ty.str (Ty.cons Ty.str (Ty.cons Ty.str Ty.unit)))), AT.v (Ty.cons Ty.str (Ty.cons Ty.str (Ty.cons Ty.str Ty.unit)))]
def tys14 : List Ty := [Ty.sl (Ty.cons Ty.str (Ty.cons Ty.str (Ty.cons Ty.str Ty.unit))), Ty.int IntKind.i64]
def P14 (x0 : List (ByteArray × ByteArray × ByteArray × Unit)) (x1 : ByteArray × ByteArray × ByteArray × Unit) : Prop := (if (!g29_0 x0) = true then True else ((P27 x1) ∧ (if (!g27_0 x1) = true then True else ((P30 x0 x1) ∧ True))))
def g14_0 (x0 : List (ByteArray × ByteArray × ByteArray × Unit)) (x1 : ByteArray × ByteArray × ByteArray × Unit) : List (ByteArray × ByteArray × ByteArray × Unit) := (if (!g29_0 x0) = true then [] else (if (!g27_0 x1) = true then [] else (if (Decidable.decide ((↑(List.length (g30_0 x0 x1)) : Int) > 32)) = true then [] else g30_0 x0 x1)))
def g14_1 (x0 : List (ByteArray × ByteArray × ByteArray × Unit)) (x1 : ByteArray × ByteArray × ByteArray × Unit) : Int := (if (!g29_0 x0) = true then 1 else (if (!g27_0 x1) = true then 1 else (if (Decidable.decide ((↑(List.length (g30_0 x0 x1)) : Int) > 32)) = true then 5 else 0)))
theorem p14_0 (x0 : List (ByteArray × ByteArray × ByteArray × Unit)) (x1 : ByteArray × ByteArray × ByteArray × Unit) : runF tab ext14 false 22 [] 2000 [] tys14 Tryd.f14.results [true, true] [.code b14] (entE 0 0 sig14 (x0, x1, ())) (entL sig14 (x0, x1, ())) = some ([Dyn.mk (Ty.sl (Ty.cons Ty.str (Ty.cons Ty.str (Ty.cons Ty.str Ty.unit)))) [], Dyn.mk (Ty.int IntKind.i64) 1], [], [True, (!g29_0 x0) = Bool.true, Bool.true = Bool.true]) := by kernel_rfl
theorem p14_1 (x0 : List (ByteArray × ByteArray × ByteArray × Unit)) (x1 : ByteArray × ByteArray × ByteArray × Unit) : runF tab ext14 false 22 [] 2000 [] tys14 Tryd.f14.results [false, true] [.code b14] (entE 0 0 sig14 (x0, x1, ())) (entL sig14 (x0, x1, ())) = some ([Dyn.mk (Ty.sl (Ty.cons Ty.str (Ty.cons Ty.str (Ty.cons Ty.str Ty.unit)))) [], Dyn.mk (Ty.int IntKind.i64) 1], [], [True, (!g29_0 x0) = Bool.false, P27 x1, (!g27_0 x1) = Bool.true]) := by kernel_rfl
theorem p14_2 (x0 : List (ByteArray × ByteArray × ByteArray × Unit)) (x1 : ByteArray × ByteArray × ByteArray × Unit) : runF tab ext14 false 22 [] 2000 [] tys14 Tryd.f14.results [false, false, true] [.code b14] (entE 0 0 sig14 (x0, x1, ())) (entL sig14 (x0, x1, ())) = some ([Dyn.mk (Ty.sl (Ty.cons Ty.str (Ty.cons Ty.str (Ty.cons Ty.str Ty.unit)))) [], Dyn.mk (Ty.int IntKind.i64) 5], [], [True, (!g29_0 x0) = Bool.false, P27 x1, (!g27_0 x1) = Bool.false, P30 x0 x1, Decidable.decide ((↑(List.length (g30_0 x0 x1)) : Int) > 32) = Bool.true]) := by kernel_rfl
theorem p14_3 (x0 : List (ByteArray × ByteArray × ByteArray × Unit)) (x1 : ByteArray × ByteArray × ByteArray × Unit) : runF tab ext14 false 22 [] 2000 [] tys14 Tryd.f14.results [false, false, false] [.code b14] (entE 0 0 sig14 (x0, x1, ())) (entL sig14 (x0, x1, ())) = some ([Dyn.mk (Ty.sl (Ty.cons Ty.str (Ty.cons Ty.str (Ty.cons Ty.str Ty.unit)))) (g30_0 x0 x1), Dyn.mk (Ty.int IntKind.i64) 0], [], [True, (!g29_0 x0) = Bool.false, P27 x1, (!g27_0 x1) = Bool.false, P30 x0 x1, Decidable.decide ((↑(List.length (g30_0 x0 x1)) : Int) > 32) = Bool.false]) := by kernel_rfl
theorem at14 (x0 : List (ByteArray × ByteArray × ByteArray × Unit)) (x1 : ByteArray × ByteArray × ByteArray × Unit) (h : P14 x0 x1) (w0 : World) (O : List Nat) (q : Nat → Value) : AtV Tryd.prog 14 (PostR [⟨Ty.sl (Ty.cons Ty.str (Ty.cons Ty.str (Ty.cons Ty.str Ty.unit))), g14_0 x0 x1⟩, ⟨Ty.int IntKind.i64, g14_1 x0 x1⟩] [] [] q w0 O) 22 w0 O q [] [.code b14] (entE 0 0 sig14 (x0, x1, ())) (entL sig14 (x0, x1, ())) := by
  unfold P14 at h
  unfold g14_0 g14_1
  by_cases b0 : (!g29_0 x0) = true
  · try simp only [if_pos b0] at h ⊢
    exact AtV.fin Tryd.func14 tabOk ext14Ok mixed (p14_0 x0 x1) ⟨trivial, b0, rfl, trivial⟩
  · try simp only [if_neg b0] at h ⊢
    replace b0 := Bool.eq_false_iff.2 b0
    obtain ⟨s0, h⟩ := h
    by_cases b1 : (!g27_0 x1) = true
    · try simp only [if_pos b1] at h ⊢
      exact AtV.fin Tryd.func14 tabOk ext14Ok mixed (p14_1 x0 x1) ⟨trivial, b0, s0, b1, trivial⟩
    · try simp only [if_neg b1] at h ⊢
      replace b1 := Bool.eq_false_iff.2 b1
      obtain ⟨s1, h⟩ := h
      by_cases b2 : (Decidable.decide ((↑(List.length (g30_0 x0 x1)) : Int) > 32)) = true
      · try simp only [if_pos b2] at h ⊢
        exact AtV.fin Tryd.func14 tabOk ext14Ok mixed (p14_2 x0 x1) ⟨trivial, b0, s0, b1, s1, b2, trivial⟩
      · try simp only [if_neg b2] at h ⊢
        replace b2 := Bool.eq_false_iff.2 b2
        exact AtV.fin Tryd.func14 tabOk ext14Ok mixed (p14_3 x0 x1) ⟨trivial, b0, s0, b1, s1, b2, trivial⟩

def S14 : Am.Spec := { sig := sig14, pre := fun ⟨x0, x1, _⟩ => P14 x0 x1, res := fun ⟨x0, x1, _⟩ => [⟨Ty.sl (Ty.cons Ty.str (Ty.cons Ty.str (Ty.cons Ty.str Ty.unit))), g14_0 x0 x1⟩, ⟨Ty.int IntKind.i64, g14_1 x0 x1⟩] }
theorem con14 : Contract Tryd.prog 14 S14 := contract_of Tryd.func14 hb14 (Nat.le_of_ble_eq_true (by kernel_rfl)) (fun ⟨x0, x1, _⟩ h _ w0 O q => at14 x0 x1 h w0 O q)


end Go.Proofs.YticibijneahllaaDoor

/- Function 5 (impl.SalvageBlocks): its runs between cut points. Written by a program of this repo (gen). -/
set_option linter.unusedVariables false
set_option linter.unusedSimpArgs false
set_option maxRecDepth 100000
namespace Go.Proofs.YticibijneahllaaDoor
open Go Go.Am Go.Proofs
def ext5 : Ext := [(12, S12), (13, S13), (14, S14)]
theorem call5_12 : Callable Tryd.prog 12 := ⟨Tryd.f12, Tryd.func12, by kernel_rfl, by kernel_rfl⟩
theorem call5_13 : Callable Tryd.prog 13 := ⟨Tryd.f13, Tryd.func13, by kernel_rfl, by kernel_rfl⟩
theorem call5_14 : Callable Tryd.prog 14 := ⟨Tryd.f14, Tryd.func14, by kernel_rfl, by kernel_rfl⟩
theorem ext5Ok : ExtOk Tryd.prog ext5 := ⟨⟨call5_12, con12⟩, ⟨call5_13, con13⟩, ⟨call5_14, con14⟩, trivial⟩
/-! Function 5. -/
noncomputable def b5 : Code := bodyOf Tryd.f5
theorem hb5 : Tryd.f5.body = some b5 := by kernel_rfl
def sig5 : List AT := [AT.v (Ty.str)]
def tys5 : List Ty := [Ty.sl (Ty.cons Ty.str (Ty.cons Ty.str (Ty.cons Ty.str Ty.unit)))]
def E5_4 (v19 : Int) (h0 : List (ByteArray × ByteArray × ByteArray × Unit)) (x0 : ByteArray) : Env := [(5, PV.a (Atom.osl 0 Option.none)), (17, PV.a (Atom.osl 1 Option.none)), (18, PV.a (Atom.val (Value.int IntKind.i64 (↑(List.length (g12_0 x0)) : Int)))), (19, PV.a (Atom.val (Value.int IntKind.i64 v19)))]
def L5_4 (v19 : Int) (h0 : List (ByteArray × ByteArray × ByteArray × Unit)) (x0 : ByteArray) : Heap := [Option.some (Arr.mk (Ty.cons Ty.str (Ty.cons Ty.str (Ty.cons Ty.str Ty.unit))) h0 Bool.false), Option.some (Arr.mk Ty.str (g12_0 x0) Bool.false)]
mutual
def R5 : Nat → ByteArray → List Dyn → Prop
  | 0, _, _ => False
  | n + 1, x0, ds => ((P12 x0) ∧ (R5_4 n (0) ([]) (x0) ds))
def R5_4 : Nat → Int → List (ByteArray × ByteArray × ByteArray × Unit) → ByteArray → List Dyn → Prop
  | 0, _, _, _, _ => False
  | n + 1, v19, h0, x0, ds => (if (Decidable.decide (v19 < (↑(List.length (g12_0 x0)) : Int))) = true then ((0 ≤ v19) ∧ (v19 < (↑(List.length (g12_0 x0)) : Int)) ∧ ((P13 (List.getD (g12_0 x0) (Int.toNat v19) ByteArray.empty)) ∧ (if (v19 == 0) = true then ((InR IntKind.i64 (v19 + 1)) ∧ (R5_4 n (v19 + 1) (h0) (x0) ds)) else (if (g13_1 (List.getD (g12_0 x0) (Int.toNat v19) ByteArray.empty) != 0) = true then ((InR IntKind.i64 (v19 + 1)) ∧ (R5_4 n (v19 + 1) (h0) (x0) ds)) else ((P14 h0 (g13_0 (List.getD (g12_0 x0) (Int.toNat v19) ByteArray.empty))) ∧ (if (g14_1 h0 (g13_0 (List.getD (g12_0 x0) (Int.toNat v19) ByteArray.empty)) == 0) = true then ((InR IntKind.i64 (v19 + 1)) ∧ (R5_4 n (v19 + 1) (g14_0 h0 (g13_0 (List.getD (g12_0 x0) (Int.toNat v19) ByteArray.empty))) (x0) ds)) else ((InR IntKind.i64 (v19 + 1)) ∧ (R5_4 n (v19 + 1) (h0) (x0) ds)))))))) else (ds = [Dyn.mk (Ty.sl (Ty.cons Ty.str (Ty.cons Ty.str (Ty.cons Ty.str Ty.unit)))) h0]))
end
theorem p5_0 (x0 : ByteArray) : Am.runN tab ext5 false 46 [] 2000 [] [(5, Ty.cons Ty.str (Ty.cons Ty.str (Ty.cons Ty.str Ty.unit)))] [5, 17, 18, 19] [1, 0] [] [.code b5] (entE 0 0 sig5 (x0, ())) (entL sig5 (x0, ())) = some (cutAt b5 4, E5_4 (0) ([]) (x0), L5_4 (0) ([]) (x0), [P12 x0]) := by kernel_rfl
theorem p5_1 (v19 : Int) (h0 : List (ByteArray × ByteArray × ByteArray × Unit)) (x0 : ByteArray) : Am.runN tab ext5 false 46 [] 2000 [] [(5, Ty.cons Ty.str (Ty.cons Ty.str (Ty.cons Ty.str Ty.unit)))] [5, 17, 18, 19] [0, 1] [true, true, true] (cutAt b5 4) (E5_4 v19 h0 x0) (L5_4 v19 h0 x0) = some (cutAt b5 4, E5_4 (v19 + 1) (h0) (x0), L5_4 (v19 + 1) (h0) (x0), [Decidable.decide (v19 < (↑(List.length (g12_0 x0)) : Int)) = Bool.true, 0 ≤ v19, v19 < (↑(List.length (g12_0 x0)) : Int), P13 (List.getD (g12_0 x0) (Int.toNat v19) ByteArray.empty), (v19 == 0) = Bool.true, Bool.true = Bool.true, InR IntKind.i64 (v19 + 1)]) := by kernel_rfl
theorem p5_2 (v19 : Int) (h0 : List (ByteArray × ByteArray × ByteArray × Unit)) (x0 : ByteArray) : Am.runN tab ext5 false 46 [] 2000 [] [(5, Ty.cons Ty.str (Ty.cons Ty.str (Ty.cons Ty.str Ty.unit)))] [5, 17, 18, 19] [0, 1] [true, false, true] (cutAt b5 4) (E5_4 v19 h0 x0) (L5_4 v19 h0 x0) = some (cutAt b5 4, E5_4 (v19 + 1) (h0) (x0), L5_4 (v19 + 1) (h0) (x0), [Decidable.decide (v19 < (↑(List.length (g12_0 x0)) : Int)) = Bool.true, 0 ≤ v19, v19 < (↑(List.length (g12_0 x0)) : Int), P13 (List.getD (g12_0 x0) (Int.toNat v19) ByteArray.empty), (v19 == 0) = Bool.false, (g13_1 (List.getD (g12_0 x0) (Int.toNat v19) ByteArray.empty) != 0) = Bool.true, InR IntKind.i64 (v19 + 1)]) := by kernel_rfl
theorem p5_3 (v19 : Int) (h0 : List (ByteArray × ByteArray × ByteArray × Unit)) (x0 : ByteArray) : Am.runN tab ext5 false 46 [] 2000 [] [(5, Ty.cons Ty.str (Ty.cons Ty.str (Ty.cons Ty.str Ty.unit)))] [5, 17, 18, 19] [3, 1] [true, false, false, true] (cutAt b5 4) (E5_4 v19 h0 x0) (L5_4 v19 h0 x0) = some (cutAt b5 4, E5_4 (v19 + 1) (g14_0 h0 (g13_0 (List.getD (g12_0 x0) (Int.toNat v19) ByteArray.empty))) (x0), L5_4 (v19 + 1) (g14_0 h0 (g13_0 (List.getD (g12_0 x0) (Int.toNat v19) ByteArray.empty))) (x0), [Decidable.decide (v19 < (↑(List.length (g12_0 x0)) : Int)) = Bool.true, 0 ≤ v19, v19 < (↑(List.length (g12_0 x0)) : Int), P13 (List.getD (g12_0 x0) (Int.toNat v19) ByteArray.empty), (v19 == 0) = Bool.false, (g13_1 (List.getD (g12_0 x0) (Int.toNat v19) ByteArray.empty) != 0) = Bool.false, P14 h0 (g13_0 (List.getD (g12_0 x0) (Int.toNat v19) ByteArray.empty)), (g14_1 h0 (g13_0 (List.getD (g12_0 x0) (Int.toNat v19) ByteArray.empty)) == 0) = Bool.true, InR IntKind.i64 (v19 + 1)]) := by kernel_rfl
theorem p5_4 (v19 : Int) (h0 : List (ByteArray × ByteArray × ByteArray × Unit)) (x0 : ByteArray) : Am.runN tab ext5 false 46 [] 2000 [] [(5, Ty.cons Ty.str (Ty.cons Ty.str (Ty.cons Ty.str Ty.unit)))] [5, 17, 18, 19] [0, 1] [true, false, false, false] (cutAt b5 4) (E5_4 v19 h0 x0) (L5_4 v19 h0 x0) = some (cutAt b5 4, E5_4 (v19 + 1) (h0) (x0), L5_4 (v19 + 1) (h0) (x0), [Decidable.decide (v19 < (↑(List.length (g12_0 x0)) : Int)) = Bool.true, 0 ≤ v19, v19 < (↑(List.length (g12_0 x0)) : Int), P13 (List.getD (g12_0 x0) (Int.toNat v19) ByteArray.empty), (v19 == 0) = Bool.false, (g13_1 (List.getD (g12_0 x0) (Int.toNat v19) ByteArray.empty) != 0) = Bool.false, P14 h0 (g13_0 (List.getD (g12_0 x0) (Int.toNat v19) ByteArray.empty)), (g14_1 h0 (g13_0 (List.getD (g12_0 x0) (Int.toNat v19) ByteArray.empty)) == 0) = Bool.false, InR IntKind.i64 (v19 + 1)]) := by kernel_rfl
theorem p5_5 (v19 : Int) (h0 : List (ByteArray × ByteArray × ByteArray × Unit)) (x0 : ByteArray) : runF tab ext5 false 46 [] 2000 [] tys5 Tryd.f5.results [false] (cutAt b5 4) (E5_4 v19 h0 x0) (L5_4 v19 h0 x0) = some ([Dyn.mk (Ty.sl (Ty.cons Ty.str (Ty.cons Ty.str (Ty.cons Ty.str Ty.unit)))) h0], [], [Decidable.decide (v19 < (↑(List.length (g12_0 x0)) : Int)) = Bool.false]) := by kernel_rfl
theorem snd5 : ∀ n, (∀ (x0 : ByteArray) ds, R5 n x0 ds → ∀ w0 O q, AtV Tryd.prog 5 (PostR ds [] [] q w0 O) 46 w0 O q [] [.code b5] (entE 0 0 sig5 (x0, ())) (entL sig5 (x0, ()))) ∧ (∀ (v19 : Int) (h0 : List (ByteArray × ByteArray × ByteArray × Unit)) (x0 : ByteArray) ds, R5_4 n v19 h0 x0 ds → ∀ w0 O q, AtV Tryd.prog 5 (PostR ds [] [] q w0 O) 46 w0 O q [] (cutAt b5 4) (E5_4 v19 h0 x0) (L5_4 v19 h0 x0)) := by
  intro n
  induction n with
  | zero => exact ⟨fun _ _ h => by simp only [R5] at h, fun _ _ _ _ h => by simp only [R5_4] at h⟩
  | succ n ih =>
  obtain ⟨ih, ih4⟩ := ih
  refine ⟨?_, ?_⟩
  · intro x0 ds h w0 O q
    rw [R5] at h
    obtain ⟨s0, h⟩ := h
    exact AtV.runN tabOk ext5Ok mixed (p5_0 x0) ⟨s0, trivial⟩ (ih4 _ _ _ _ h w0 O q)

  · intro v19 h0 x0 ds h w0 O q
    rw [R5_4] at h
    by_cases b0 : (Decidable.decide (v19 < (↑(List.length (g12_0 x0)) : Int))) = true
    · rw [if_pos b0] at h
      obtain ⟨s0, s1, h⟩ := h
      obtain ⟨s2, h⟩ := h
      by_cases b1 : (v19 == 0) = true
      · rw [if_pos b1] at h
        obtain ⟨s3, h⟩ := h
        exact AtV.runN tabOk ext5Ok mixed (p5_1 v19 h0 x0) ⟨b0, s0, s1, s2, b1, rfl, s3, trivial⟩ (ih4 _ _ _ _ h w0 O q)
      · rw [if_neg b1] at h
        replace b1 := Bool.eq_false_iff.2 b1
        by_cases b2 : (g13_1 (List.getD (g12_0 x0) (Int.toNat v19) ByteArray.empty) != 0) = true
        · rw [if_pos b2] at h
          obtain ⟨s3, h⟩ := h
          exact AtV.runN tabOk ext5Ok mixed (p5_2 v19 h0 x0) ⟨b0, s0, s1, s2, b1, b2, s3, trivial⟩ (ih4 _ _ _ _ h w0 O q)
        · rw [if_neg b2] at h
          replace b2 := Bool.eq_false_iff.2 b2
          obtain ⟨s3, h⟩ := h
          by_cases b3 : (g14_1 h0 (g13_0 (List.getD (g12_0 x0) (Int.toNat v19) ByteArray.empty)) == 0) = true
          · rw [if_pos b3] at h
            obtain ⟨s4, h⟩ := h
            exact AtV.runN tabOk ext5Ok mixed (p5_3 v19 h0 x0) ⟨b0, s0, s1, s2, b1, b2, s3, b3, s4, trivial⟩ (ih4 _ _ _ _ h w0 O q)
          · rw [if_neg b3] at h
            replace b3 := Bool.eq_false_iff.2 b3
            obtain ⟨s4, h⟩ := h
            exact AtV.runN tabOk ext5Ok mixed (p5_4 v19 h0 x0) ⟨b0, s0, s1, s2, b1, b2, s3, b3, s4, trivial⟩ (ih4 _ _ _ _ h w0 O q)
    · rw [if_neg b0] at h
      replace b0 := Bool.eq_false_iff.2 b0
      subst h
      exact AtV.fin Tryd.func5 tabOk ext5Ok mixed (p5_5 v19 h0 x0) ⟨b0, trivial⟩



def ls5 (x0 : ByteArray) : List ByteArray := g12_0 x0
def st5 (h : List (ByteArray × ByteArray × ByteArray × Unit)) (w : ByteArray) : List (ByteArray × ByteArray × ByteArray × Unit) := if g13_1 w ≠ 0 then h else if g14_1 h (g13_0 w) = 0 then g14_0 h (g13_0 w) else h
def g5_0 (x0 : ByteArray) : List (ByteArray × ByteArray × ByteArray × Unit) := ((ls5 x0).drop 1).foldl st5 []
def P5 (x0 : ByteArray) : Prop := P12 x0 ∧ (ls5 x0).length ≤ 1048577 ∧ ∀ w ∈ ls5 x0, P13 w

theorem put5 (h : List (ByteArray × ByteArray × ByteArray × Unit)) (b : (ByteArray × ByteArray × ByteArray × Unit)) : P14 h b := by
  unfold P14
  cases hv : g29_0 h with
  | false => rw [if_pos (show (!false) = true from rfl)]; trivial
  | true =>
    have hl : h.length ≤ 32 := by
      unfold g29_0 at hv
      rw [Bool.and_eq_true] at hv
      exact of_decide_eq_true hv.2
    rw [if_neg (show ¬ (!true) = true by decide)]
    refine ⟨pre27 b, ?_⟩
    split
    · trivial
    · exact ⟨pre30 h b (by omega), trivial⟩

theorem run5 (x0 : ByteArray) (hl : (ls5 x0).length ≤ 1048577) (hP : ∀ w ∈ ls5 x0, P13 w) : ∀ (k i : Nat) (h : List (ByteArray × ByteArray × ByteArray × Unit)), i + k = (ls5 x0).length → 1 ≤ i →
    R5_4 (k + 1) (i : Int) h x0 [⟨.sl (.cons .str (.cons .str (.cons .str .unit))), ((ls5 x0).drop i).foldl st5 h⟩] := by
  have ew : g12_0 x0 = ls5 x0 := rfl
  intro k
  induction k with
  | zero =>
    intro i h hi h1
    rw [R5_4, ew, if_neg (by simp only [decide_eq_true_eq]; omega), List.drop_of_length_le (by omega)]
    rfl
  | succ k ih =>
    intro i h hi h1
    have hlt : i < (ls5 x0).length := by omega
    have hup : InR .i64 ((i : Int) + 1) := by rw [i64_iff]; omega
    have e1 : (i : Int) + 1 = ((i + 1 : Nat) : Int) := by omega
    have hb := hP _ (mem_getD (ls5 x0) i ByteArray.empty hlt)
    obtain ⟨w, hw⟩ : ∃ w, (ls5 x0).getD i ByteArray.empty = w := ⟨_, rfl⟩
    have hd : (ls5 x0).drop i = w :: (ls5 x0).drop (i + 1) := by rw [drop_get (ls5 x0) i ByteArray.empty hlt, hw]
    rw [hw] at hb
    rw [hd, List.foldl_cons, R5_4, ew, if_pos (by simp only [decide_eq_true_eq]; omega)]
    simp only [Int.toNat_natCast, hw]
    refine ⟨by omega, by omega, hb, ?_⟩
    have hi0 : ((i : Int) == 0) = false := by rw [Bool.eq_false_iff, ne_eq, beq_iff_eq]; omega
    rw [hi0, if_neg (show ¬ false = true by decide)]
    have nx := ih (i + 1) (st5 h w) (by omega) (by omega)
    unfold st5 at nx ⊢
    by_cases hc : g13_1 w = 0
    · have hb0 : (g13_1 w != 0) = false := by rw [hc]; rfl
      rw [hb0, if_neg (show ¬ false = true by decide)]
      rw [if_neg (show ¬ (g13_1 w ≠ 0) from fun hx => hx hc)] at nx ⊢
      refine ⟨put5 h _, ?_⟩
      by_cases hp : g14_1 h (g13_0 w) = 0
      · rw [if_pos (show (g14_1 h (g13_0 w) == 0) = true from by rw [hp]; rfl)]
        rw [if_pos hp] at nx ⊢
        exact ⟨hup, by rw [e1]; exact nx⟩
      · rw [if_neg (show ¬ (g14_1 h (g13_0 w) == 0) = true from fun hh => hp (beq_iff_eq.1 hh))]
        rw [if_neg hp] at nx ⊢
        exact ⟨hup, by rw [e1]; exact nx⟩
    · have hb0 : (g13_1 w != 0) = true := by simpa using hc
      rw [hb0, if_pos rfl]
      rw [if_pos (show g13_1 w ≠ 0 from hc)] at nx ⊢
      exact ⟨hup, by rw [e1]; exact nx⟩

theorem top5 (x0 : ByteArray) (hp : P5 x0) : ∃ n, R5 n x0 [⟨.sl (.cons .str (.cons .str (.cons .str .unit))), g5_0 x0⟩] := by
  obtain ⟨p1, p2, p3⟩ := hp
  have ew : g12_0 x0 = ls5 x0 := rfl
  refine ⟨((ls5 x0).length + 1) + 1, ?_⟩
  rw [R5]
  refine ⟨p1, ?_⟩
  rw [R5_4, ew]
  by_cases h0 : (ls5 x0).length = 0
  · rw [if_neg (by simp only [decide_eq_true_eq]; omega)]
    have : ls5 x0 = [] := List.eq_nil_of_length_eq_zero h0
    unfold g5_0
    rw [this]
    rfl
  · rw [if_pos (by simp only [decide_eq_true_eq]; omega)]
    have hz : Int.toNat 0 = 0 := rfl
    rw [hz]
    refine ⟨by omega, by omega, p3 _ (mem_getD (ls5 x0) 0 ByteArray.empty (by omega)), ?_⟩
    rw [if_pos (show ((0 : Int) == 0) = true from rfl)]
    refine ⟨by rw [i64_iff]; omega, ?_⟩
    have := run5 x0 p2 p3 ((ls5 x0).length - 1) 1 [] (by omega) (by omega)
    rw [show (ls5 x0).length - 1 + 1 = (ls5 x0).length by omega] at this
    exact this

def S5 : Am.Spec := { sig := sig5, pre := fun ⟨x0, _⟩ => P5 x0, res := fun ⟨x0, _⟩ => [⟨.sl (.cons .str (.cons .str (.cons .str .unit))), g5_0 x0⟩] }
theorem con5 : Contract Tryd.prog 5 S5 := contract_of Tryd.func5 hb5 (Nat.le_of_ble_eq_true (by kernel_rfl)) (fun ⟨x0, _⟩ h hwf w0 O q => by
  obtain ⟨n, hn⟩ := top5 x0 h
  exact (snd5 n).1 x0 _ hn w0 O q)

end Go.Proofs.YticibijneahllaaDoor

/- Function 17 (spec.l01Split): its runs between cut points. Written by a program of this repo (gen). -/
set_option linter.unusedVariables false
set_option linter.unusedSimpArgs false
set_option maxRecDepth 100000
namespace Go.Proofs.YticibijneahllaaDoor
open Go Go.Am Go.Proofs
def ext17 : Ext := []
theorem ext17Ok : ExtOk Tryd.prog ext17 := trivial
/-! Function 17. -/
noncomputable def b17 : Code := bodyOf Tryd.f17
theorem hb17 : Tryd.f17.body = some b17 := by kernel_rfl
def sig17 : List AT := [AT.v (Ty.str), AT.v (Ty.int IntKind.u8)]
def tys17 : List Ty := [Ty.sl Ty.str]
def E17_4 (v6 : Int) (v7 : Int) (h0 : List ByteArray) (x0 : ByteArray) (x1 : Int) : Env := [(0, PV.a (Atom.val (Value.string x0))), (1, PV.a (Atom.val (Value.int IntKind.u8 x1))), (5, PV.a (Atom.osl 0 Option.none)), (6, PV.a (Atom.val (Value.int IntKind.i64 v6))), (7, PV.a (Atom.val (Value.int IntKind.i64 v7)))]
def L17_4 (v6 : Int) (v7 : Int) (h0 : List ByteArray) (x0 : ByteArray) (x1 : Int) : Heap := [Option.some (Arr.mk Ty.str h0 Bool.false)]
mutual
def R17 : Nat → ByteArray → Int → List Dyn → Prop
  | 0, _, _, _ => False
  | n + 1, x0, x1, ds => (R17_4 n (0) (0) ([]) (x0) (x1) ds)
def R17_4 : Nat → Int → Int → List ByteArray → ByteArray → Int → List Dyn → Prop
  | 0, _, _, _, _, _, _ => False
  | n + 1, v6, v7, h0, x0, x1, ds => (if (Decidable.decide (v7 < (↑(ByteArray.size x0) : Int))) = true then ((0 ≤ v7) ∧ (v7 < (↑(ByteArray.size x0) : Int)) ∧ (if ((↑(UInt8.toNat (List.getD (Array.toList (ByteArray.data x0)) (Int.toNat v7) 0)) : Int) == x1) = true then ((0 ≤ v6) ∧ (v6 ≤ v7) ∧ (v7 ≤ (↑(ByteArray.size x0) : Int)) ∧ (((List.length h0 + 1) * 16 ≤ 140737488355328) ∧ ((InR IntKind.i64 (v7 + 1)) ∧ ((InR IntKind.i64 (v7 + 1)) ∧ (R17_4 n (v7 + 1) (v7 + 1) (h0 ++ [ByteArray.extract x0 (Int.toNat v6) (Int.toNat v7)]) (x0) (x1) ds))))) else ((InR IntKind.i64 (v7 + 1)) ∧ (R17_4 n (v6) (v7 + 1) (h0) (x0) (x1) ds)))) else ((0 ≤ v6) ∧ (v6 ≤ (↑(ByteArray.size x0) : Int)) ∧ (((List.length h0 + 1) * 16 ≤ 140737488355328) ∧ (ds = [Dyn.mk (Ty.sl Ty.str) (h0 ++ [ByteArray.extract x0 (Int.toNat v6) (Int.toNat (↑(ByteArray.size x0) : Int))])]))))
end
theorem p17_0 (x0 : ByteArray) (x1 : Int) : Am.runN tab ext17 false 35 [] 2000 [] [] [0, 1, 5, 6, 7] [0] [] [.code b17] (entE 0 0 sig17 (x0, x1, ())) (entL sig17 (x0, x1, ())) = some (cutAt b17 4, E17_4 (0) (0) ([]) (x0) (x1), L17_4 (0) (0) ([]) (x0) (x1), []) := by kernel_rfl
theorem p17_1 (v6 : Int) (v7 : Int) (h0 : List ByteArray) (x0 : ByteArray) (x1 : Int) : Am.runN tab ext17 false 35 [] 2000 [] [] [0, 1, 5, 6, 7] [0] [true, true] (cutAt b17 4) (E17_4 v6 v7 h0 x0 x1) (L17_4 v6 v7 h0 x0 x1) = some (cutAt b17 4, E17_4 (v7 + 1) (v7 + 1) (h0 ++ [ByteArray.extract x0 (Int.toNat v6) (Int.toNat v7)]) (x0) (x1), L17_4 (v7 + 1) (v7 + 1) (h0 ++ [ByteArray.extract x0 (Int.toNat v6) (Int.toNat v7)]) (x0) (x1), [Decidable.decide (v7 < (↑(ByteArray.size x0) : Int)) = Bool.true, 0 ≤ v7, v7 < (↑(ByteArray.size x0) : Int), ((↑(UInt8.toNat (List.getD (Array.toList (ByteArray.data x0)) (Int.toNat v7) 0)) : Int) == x1) = Bool.true, 0 ≤ v6, v6 ≤ v7, v7 ≤ (↑(ByteArray.size x0) : Int), (List.length h0 + 1) * 16 ≤ 140737488355328, InR IntKind.i64 (v7 + 1), InR IntKind.i64 (v7 + 1)]) := by kernel_rfl
theorem p17_2 (v6 : Int) (v7 : Int) (h0 : List ByteArray) (x0 : ByteArray) (x1 : Int) : Am.runN tab ext17 false 35 [] 2000 [] [] [0, 1, 5, 6, 7] [0] [true, false] (cutAt b17 4) (E17_4 v6 v7 h0 x0 x1) (L17_4 v6 v7 h0 x0 x1) = some (cutAt b17 4, E17_4 (v6) (v7 + 1) (h0) (x0) (x1), L17_4 (v6) (v7 + 1) (h0) (x0) (x1), [Decidable.decide (v7 < (↑(ByteArray.size x0) : Int)) = Bool.true, 0 ≤ v7, v7 < (↑(ByteArray.size x0) : Int), ((↑(UInt8.toNat (List.getD (Array.toList (ByteArray.data x0)) (Int.toNat v7) 0)) : Int) == x1) = Bool.false, InR IntKind.i64 (v7 + 1)]) := by kernel_rfl
theorem p17_3 (v6 : Int) (v7 : Int) (h0 : List ByteArray) (x0 : ByteArray) (x1 : Int) : runF tab ext17 false 35 [] 2000 [] tys17 Tryd.f17.results [false] (cutAt b17 4) (E17_4 v6 v7 h0 x0 x1) (L17_4 v6 v7 h0 x0 x1) = some ([Dyn.mk (Ty.sl Ty.str) (h0 ++ [ByteArray.extract x0 (Int.toNat v6) (Int.toNat (↑(ByteArray.size x0) : Int))])], [], [Decidable.decide (v7 < (↑(ByteArray.size x0) : Int)) = Bool.false, 0 ≤ v6, v6 ≤ (↑(ByteArray.size x0) : Int), (List.length h0 + 1) * 16 ≤ 140737488355328]) := by kernel_rfl
theorem snd17 : ∀ n, (∀ (x0 : ByteArray) (x1 : Int) ds, R17 n x0 x1 ds → ∀ w0 O q, AtV Tryd.prog 17 (PostR ds [] [] q w0 O) 35 w0 O q [] [.code b17] (entE 0 0 sig17 (x0, x1, ())) (entL sig17 (x0, x1, ()))) ∧ (∀ (v6 : Int) (v7 : Int) (h0 : List ByteArray) (x0 : ByteArray) (x1 : Int) ds, R17_4 n v6 v7 h0 x0 x1 ds → ∀ w0 O q, AtV Tryd.prog 17 (PostR ds [] [] q w0 O) 35 w0 O q [] (cutAt b17 4) (E17_4 v6 v7 h0 x0 x1) (L17_4 v6 v7 h0 x0 x1)) := by
  intro n
  induction n with
  | zero => exact ⟨fun _ _ _ h => by simp only [R17] at h, fun _ _ _ _ _ _ h => by simp only [R17_4] at h⟩
  | succ n ih =>
  obtain ⟨ih, ih4⟩ := ih
  refine ⟨?_, ?_⟩
  · intro x0 x1 ds h w0 O q
    rw [R17] at h
    exact AtV.runN tabOk ext17Ok mixed (p17_0 x0 x1) trivial (ih4 _ _ _ _ _ _ h w0 O q)

  · intro v6 v7 h0 x0 x1 ds h w0 O q
    rw [R17_4] at h
    by_cases b0 : (Decidable.decide (v7 < (↑(ByteArray.size x0) : Int))) = true
    · rw [if_pos b0] at h
      obtain ⟨s0, s1, h⟩ := h
      by_cases b1 : ((↑(UInt8.toNat (List.getD (Array.toList (ByteArray.data x0)) (Int.toNat v7) 0)) : Int) == x1) = true
      · rw [if_pos b1] at h
        obtain ⟨s2, s3, s4, h⟩ := h
        obtain ⟨s5, h⟩ := h
        obtain ⟨s6, h⟩ := h
        obtain ⟨s7, h⟩ := h
        exact AtV.runN tabOk ext17Ok mixed (p17_1 v6 v7 h0 x0 x1) ⟨b0, s0, s1, b1, s2, s3, s4, s5, s6, s7, trivial⟩ (ih4 _ _ _ _ _ _ h w0 O q)
      · rw [if_neg b1] at h
        replace b1 := Bool.eq_false_iff.2 b1
        obtain ⟨s2, h⟩ := h
        exact AtV.runN tabOk ext17Ok mixed (p17_2 v6 v7 h0 x0 x1) ⟨b0, s0, s1, b1, s2, trivial⟩ (ih4 _ _ _ _ _ _ h w0 O q)
    · rw [if_neg b0] at h
      replace b0 := Bool.eq_false_iff.2 b0
      obtain ⟨s0, s1, h⟩ := h
      obtain ⟨s2, h⟩ := h
      subst h
      exact AtV.fin Tryd.func17 tabOk ext17Ok mixed (p17_3 v6 v7 h0 x0 x1) ⟨b0, s0, s1, s2, trivial⟩



def c17 (x1 : Int) : UInt8 := UInt8.ofNat x1.toNat
def g17_0 (x0 : ByteArray) (x1 : Int) : List ByteArray := bss (splitC (c17 x1) x0.data.toList)
def P17 (x0 : ByteArray) (x1 : Int) : Prop := x0.size < 4294967281 ∧ 0 ≤ x1 ∧ x1 ≤ 255

theorem run17 (x0 : ByteArray) (x1 : Int) (hs : x0.size < 4294967281) (h0 : 0 ≤ x1) (h1 : x1 ≤ 255) : ∀ (k i frm : Nat) (h : List ByteArray), i + k = x0.size → frm ≤ i → c17 x1 ∉ (x0.data.toList.drop frm).take (i - frm) → h.length ≤ i →
    R17_4 (k + 1) (frm : Int) (i : Int) h x0 x1 [⟨.sl .str, h ++ bss (splitC (c17 x1) (x0.data.toList.drop frm))⟩] := by
  intro k
  have hll : x0.data.toList.length = x0.size := rfl
  induction k with
  | zero =>
    intro i frm h hi hf hc hl
    rw [R17_4, if_neg (by simp; omega)]
    refine ⟨by omega, by omega, by omega, ?_⟩
    have e : (x0.data.toList.drop frm).take (i - frm) = x0.data.toList.drop frm := List.take_of_length_le (by rw [List.length_drop]; omega)
    rw [e] at hc
    rw [splitC_free _ hc, Int.toNat_natCast, Int.toNat_natCast, Lib.extract_from]
    rfl
  | succ k ih =>
    intro i frm h hi hf hc hl
    have hup : InR .i64 ((i : Int) + 1) := by rw [i64_iff]; omega
    have hlt : i < x0.data.toList.length := by rw [hll]; omega
    have hcons : x0.data.toList.drop i = x0.data.toList.getD i 0 :: x0.data.toList.drop (i + 1) := drop_get _ i 0 hlt
    have hsplit : x0.data.toList.drop frm = (x0.data.toList.drop frm).take (i - frm) ++ x0.data.toList.drop i := by
      conv => lhs; rw [← List.take_append_drop (i - frm) (x0.data.toList.drop frm)]
      rw [List.drop_drop, show frm + (i - frm) = i by omega]
    rw [R17_4, if_pos (by simp; omega)]
    simp only [Int.toNat_natCast]
    refine ⟨by omega, by omega, ?_⟩
    have hb : (((x0.data.toList.getD i 0).toNat : Int) == x1) = true ↔ x0.data.toList.getD i 0 = c17 x1 := by
      have hlt' := (x0.data.toList.getD i 0).toNat_lt
      rw [beq_iff_eq, ← UInt8.toNat_inj]
      unfold c17
      have : (UInt8.ofNat x1.toNat).toNat = x1.toNat := by rw [UInt8.toNat_ofNat']; omega
      rw [this]
      omega
    by_cases he : x0.data.toList.getD i 0 = c17 x1
    · rw [if_pos (hb.2 he)]
      refine ⟨by omega, by omega, by omega, by omega, hup, hup, ?_⟩
      have := ih (i + 1) (i + 1) (h ++ [x0.extract frm i]) (by omega) (Nat.le_refl _) (by simp) (by simp; omega)
      have e2 : x0.extract frm i = ⟨((x0.data.toList.drop frm).take (i - frm)).toArray⟩ := Lib.extract_mk x0.data.toList frm i
      have e3 : splitC (c17 x1) (x0.data.toList.drop frm) = (x0.data.toList.drop frm).take (i - frm) :: splitC (c17 x1) (x0.data.toList.drop (i + 1)) := by
        conv => lhs; rw [hsplit, hcons, he]
        exact splitC_hit _ _ hc
      rw [e3, e2]
      rw [List.append_assoc, e2] at this
      exact this
    · rw [if_neg (fun hh => he (hb.1 hh))]
      refine ⟨hup, ?_⟩
      refine ih (i + 1) frm h (by omega) (by omega) (fun hm => ?_) (by omega)
      have e4 : (x0.data.toList.drop frm).take (i + 1 - frm) = (x0.data.toList.drop frm).take (i - frm) ++ [x0.data.toList.getD i 0] := by
        conv => lhs; rw [hsplit, hcons]
        rw [List.take_append, List.take_of_length_le (by rw [List.length_take, List.length_drop]; omega)]
        have : i + 1 - frm - ((x0.data.toList.drop frm).take (i - frm)).length = 1 := by rw [List.length_take, List.length_drop]; omega
        rw [this]
        rfl
      rw [e4] at hm
      rcases List.mem_append.1 hm with hm | hm
      · exact hc hm
      · exact he (List.mem_singleton.1 hm).symm

theorem top17 (x0 : ByteArray) (x1 : Int) (h : P17 x0 x1) : R17 (x0.size + 1 + 1) x0 x1 [⟨.sl .str, g17_0 x0 x1⟩] := by
  rw [R17]
  have := run17 x0 x1 h.1 h.2.1 h.2.2 x0.size 0 0 [] (by omega) (Nat.le_refl _) (by simp) (by simp)
  simpa [g17_0] using this

def S17 : Am.Spec := { sig := sig17, pre := fun ⟨x0, x1, _⟩ => P17 x0 x1, res := fun ⟨x0, x1, _⟩ => [⟨.sl .str, g17_0 x0 x1⟩] }
theorem con17 : Contract Tryd.prog 17 S17 := contract_of Tryd.func17 hb17 (Nat.le_of_ble_eq_true (by kernel_rfl)) (fun ⟨x0, x1, _⟩ h hwf w0 O q =>
  (snd17 _).1 x0 x1 _ (top17 x0 x1 h) w0 O q)

end Go.Proofs.YticibijneahllaaDoor

/- Function 9 (spec.l29Lines): its runs between cut points. Written by a program of this repo (gen). -/
set_option linter.unusedVariables false
set_option linter.unusedSimpArgs false
set_option maxRecDepth 100000
namespace Go.Proofs.YticibijneahllaaDoor
open Go Go.Am Go.Proofs
def ext9 : Ext := [(17, S17)]
theorem call9_17 : Callable Tryd.prog 17 := ⟨Tryd.f17, Tryd.func17, by kernel_rfl, by kernel_rfl⟩
theorem ext9Ok : ExtOk Tryd.prog ext9 := ⟨⟨call9_17, con17⟩, trivial⟩
/-! Function 9. -/
noncomputable def b9 : Code := bodyOf Tryd.f9
theorem hb9 : Tryd.f9.body = some b9 := by kernel_rfl
def sig9 : List AT := [AT.v (Ty.str)]
def tys9 : List Ty := [Ty.sl Ty.str, Ty.bool]
def P9 (x0 : ByteArray) : Prop := ((P17 x0 10) ∧ ((InR IntKind.i64 ((↑(List.length (g17_0 x0 10)) : Int) - 1)) ∧ ((0 ≤ (↑(List.length (g17_0 x0 10)) : Int) - 1) ∧ ((↑(List.length (g17_0 x0 10)) : Int) - 1 ≤ (↑(List.length (g17_0 x0 10) - 0) : Int)) ∧ ((0 ≤ (↑(List.length (g17_0 x0 10)) : Int) - 1) ∧ ((↑(List.length (g17_0 x0 10)) : Int) - 1 < (↑(List.length (g17_0 x0 10)) : Int)) ∧ True))))
def g9_0 (x0 : ByteArray) : List ByteArray := List.drop 0 (List.take (0 + Int.toNat ((↑(List.length (g17_0 x0 10)) : Int) - 1)) (g17_0 x0 10))
def g9_1 (x0 : ByteArray) : Bool := ByteArray.toList (List.getD (g17_0 x0 10) (Int.toNat ((↑(List.length (g17_0 x0 10)) : Int) - 1)) ByteArray.empty) == ByteArray.toList (ByteArray.mk #[])
theorem p9_0 (x0 : ByteArray) : runF tab ext9 false 19 [] 2000 [] tys9 Tryd.f9.results [] [.code b9] (entE 0 0 sig9 (x0, ())) (entL sig9 (x0, ())) = some ([Dyn.mk (Ty.sl Ty.str) (List.drop 0 (List.take (0 + Int.toNat ((↑(List.length (g17_0 x0 10)) : Int) - 1)) (g17_0 x0 10))), Dyn.mk Ty.bool (ByteArray.toList (List.getD (g17_0 x0 10) (Int.toNat ((↑(List.length (g17_0 x0 10)) : Int) - 1)) ByteArray.empty) == ByteArray.toList (ByteArray.mk #[]))], [], [P17 x0 10, InR IntKind.i64 ((↑(List.length (g17_0 x0 10)) : Int) - 1), 0 ≤ (↑(List.length (g17_0 x0 10)) : Int) - 1, (↑(List.length (g17_0 x0 10)) : Int) - 1 ≤ (↑(List.length (g17_0 x0 10) - 0) : Int), 0 ≤ (↑(List.length (g17_0 x0 10)) : Int) - 1, (↑(List.length (g17_0 x0 10)) : Int) - 1 < (↑(List.length (g17_0 x0 10)) : Int)]) := by kernel_rfl
theorem at9 (x0 : ByteArray) (h : P9 x0) (w0 : World) (O : List Nat) (q : Nat → Value) : AtV Tryd.prog 9 (PostR [⟨Ty.sl Ty.str, g9_0 x0⟩, ⟨Ty.bool, g9_1 x0⟩] [] [] q w0 O) 19 w0 O q [] [.code b9] (entE 0 0 sig9 (x0, ())) (entL sig9 (x0, ())) := by
  unfold P9 at h
  unfold g9_0 g9_1
  obtain ⟨s0, h⟩ := h
  obtain ⟨s1, h⟩ := h
  obtain ⟨s2, s3, h⟩ := h
  obtain ⟨s4, s5, h⟩ := h
  exact AtV.fin Tryd.func9 tabOk ext9Ok mixed (p9_0 x0) ⟨s0, s1, s2, s3, s4, s5, trivial⟩

def S9 : Am.Spec := { sig := sig9, pre := fun ⟨x0, _⟩ => P9 x0, res := fun ⟨x0, _⟩ => [⟨Ty.sl Ty.str, g9_0 x0⟩, ⟨Ty.bool, g9_1 x0⟩] }
theorem con9 : Contract Tryd.prog 9 S9 := contract_of Tryd.func9 hb9 (Nat.le_of_ble_eq_true (by kernel_rfl)) (fun ⟨x0, _⟩ h _ w0 O q => at9 x0 h w0 O q)


end Go.Proofs.YticibijneahllaaDoor

/- Function 4 (spec.SalvageBlocks): its runs between cut points. Written by a program of this repo (gen). -/
set_option linter.unusedVariables false
set_option linter.unusedSimpArgs false
set_option maxRecDepth 100000
namespace Go.Proofs.YticibijneahllaaDoor
open Go Go.Am Go.Proofs
def ext4 : Ext := [(9, S9), (10, S10), (11, S11)]
theorem call4_9 : Callable Tryd.prog 9 := ⟨Tryd.f9, Tryd.func9, by kernel_rfl, by kernel_rfl⟩
theorem call4_10 : Callable Tryd.prog 10 := ⟨Tryd.f10, Tryd.func10, by kernel_rfl, by kernel_rfl⟩
theorem call4_11 : Callable Tryd.prog 11 := ⟨Tryd.f11, Tryd.func11, by kernel_rfl, by kernel_rfl⟩
theorem ext4Ok : ExtOk Tryd.prog ext4 := ⟨⟨call4_9, con9⟩, ⟨call4_10, con10⟩, ⟨call4_11, con11⟩, trivial⟩
/-! Function 4. -/
noncomputable def b4 : Code := bodyOf Tryd.f4
theorem hb4 : Tryd.f4.body = some b4 := by kernel_rfl
def sig4 : List AT := [AT.v (Ty.str)]
def tys4 : List Ty := [Ty.sl (Ty.cons Ty.str (Ty.cons Ty.str (Ty.cons Ty.str Ty.unit)))]
def E4_4 (v6 : Int) (h1 : List (ByteArray × ByteArray × ByteArray × Unit)) (x0 : ByteArray) : Env := [(3, PV.a (Atom.osl 0 Option.none)), (5, PV.a (Atom.osl 1 Option.none)), (6, PV.a (Atom.val (Value.int IntKind.i64 v6)))]
def L4_4 (v6 : Int) (h1 : List (ByteArray × ByteArray × ByteArray × Unit)) (x0 : ByteArray) : Heap := [Option.some (Arr.mk Ty.str (g9_0 x0) Bool.false), Option.some (Arr.mk (Ty.cons Ty.str (Ty.cons Ty.str (Ty.cons Ty.str Ty.unit))) h1 Bool.false)]
mutual
def R4 : Nat → ByteArray → List Dyn → Prop
  | 0, _, _ => False
  | n + 1, x0, ds => ((P9 x0) ∧ (R4_4 n (1) ([]) (x0) ds))
def R4_4 : Nat → Int → List (ByteArray × ByteArray × ByteArray × Unit) → ByteArray → List Dyn → Prop
  | 0, _, _, _, _ => False
  | n + 1, v6, h1, x0, ds => (if (Decidable.decide (v6 < (↑(List.length (g9_0 x0)) : Int))) = true then ((0 ≤ v6) ∧ (v6 < (↑(List.length (g9_0 x0)) : Int)) ∧ (if (g10_1 (List.getD (g9_0 x0) (Int.toNat v6) ByteArray.empty) != 0) = true then ((InR IntKind.i64 (v6 + 1)) ∧ (R4_4 n (v6 + 1) (h1) (x0) ds)) else ((P11 h1 (g10_0 (List.getD (g9_0 x0) (Int.toNat v6) ByteArray.empty))) ∧ (if (Decidable.decide ((↑(List.length (g11_0 h1 (g10_0 (List.getD (g9_0 x0) (Int.toNat v6) ByteArray.empty)))) : Int) ≤ 32)) = true then ((InR IntKind.i64 (v6 + 1)) ∧ (R4_4 n (v6 + 1) (g11_0 h1 (g10_0 (List.getD (g9_0 x0) (Int.toNat v6) ByteArray.empty))) (x0) ds)) else ((InR IntKind.i64 (v6 + 1)) ∧ (R4_4 n (v6 + 1) (h1) (x0) ds)))))) else (ds = [Dyn.mk (Ty.sl (Ty.cons Ty.str (Ty.cons Ty.str (Ty.cons Ty.str Ty.unit)))) h1]))
end
theorem p4_0 (x0 : ByteArray) : Am.runN tab ext4 false 40 [] 2000 [] [] [3, 5, 6] [0, 1] [] [.code b4] (entE 0 0 sig4 (x0, ())) (entL sig4 (x0, ())) = some (cutAt b4 4, E4_4 (1) ([]) (x0), L4_4 (1) ([]) (x0), [P9 x0]) := by kernel_rfl
theorem p4_1 (v6 : Int) (h1 : List (ByteArray × ByteArray × ByteArray × Unit)) (x0 : ByteArray) : Am.runN tab ext4 false 40 [] 2000 [] [] [3, 5, 6] [0, 1] [true, true] (cutAt b4 4) (E4_4 v6 h1 x0) (L4_4 v6 h1 x0) = some (cutAt b4 4, E4_4 (v6 + 1) (h1) (x0), L4_4 (v6 + 1) (h1) (x0), [Decidable.decide (v6 < (↑(List.length (g9_0 x0)) : Int)) = Bool.true, 0 ≤ v6, v6 < (↑(List.length (g9_0 x0)) : Int), True, (g10_1 (List.getD (g9_0 x0) (Int.toNat v6) ByteArray.empty) != 0) = Bool.true, InR IntKind.i64 (v6 + 1)]) := by kernel_rfl
theorem p4_2 (v6 : Int) (h1 : List (ByteArray × ByteArray × ByteArray × Unit)) (x0 : ByteArray) : Am.runN tab ext4 false 40 [] 2000 [] [] [3, 5, 6] [0, 3] [true, false, true] (cutAt b4 4) (E4_4 v6 h1 x0) (L4_4 v6 h1 x0) = some (cutAt b4 4, E4_4 (v6 + 1) (g11_0 h1 (g10_0 (List.getD (g9_0 x0) (Int.toNat v6) ByteArray.empty))) (x0), L4_4 (v6 + 1) (g11_0 h1 (g10_0 (List.getD (g9_0 x0) (Int.toNat v6) ByteArray.empty))) (x0), [Decidable.decide (v6 < (↑(List.length (g9_0 x0)) : Int)) = Bool.true, 0 ≤ v6, v6 < (↑(List.length (g9_0 x0)) : Int), True, (g10_1 (List.getD (g9_0 x0) (Int.toNat v6) ByteArray.empty) != 0) = Bool.false, P11 h1 (g10_0 (List.getD (g9_0 x0) (Int.toNat v6) ByteArray.empty)), Decidable.decide ((↑(List.length (g11_0 h1 (g10_0 (List.getD (g9_0 x0) (Int.toNat v6) ByteArray.empty)))) : Int) ≤ 32) = Bool.true, InR IntKind.i64 (v6 + 1)]) := by kernel_rfl
theorem p4_3 (v6 : Int) (h1 : List (ByteArray × ByteArray × ByteArray × Unit)) (x0 : ByteArray) : Am.runN tab ext4 false 40 [] 2000 [] [] [3, 5, 6] [0, 1] [true, false, false] (cutAt b4 4) (E4_4 v6 h1 x0) (L4_4 v6 h1 x0) = some (cutAt b4 4, E4_4 (v6 + 1) (h1) (x0), L4_4 (v6 + 1) (h1) (x0), [Decidable.decide (v6 < (↑(List.length (g9_0 x0)) : Int)) = Bool.true, 0 ≤ v6, v6 < (↑(List.length (g9_0 x0)) : Int), True, (g10_1 (List.getD (g9_0 x0) (Int.toNat v6) ByteArray.empty) != 0) = Bool.false, P11 h1 (g10_0 (List.getD (g9_0 x0) (Int.toNat v6) ByteArray.empty)), Decidable.decide ((↑(List.length (g11_0 h1 (g10_0 (List.getD (g9_0 x0) (Int.toNat v6) ByteArray.empty)))) : Int) ≤ 32) = Bool.false, InR IntKind.i64 (v6 + 1)]) := by kernel_rfl
theorem p4_4 (v6 : Int) (h1 : List (ByteArray × ByteArray × ByteArray × Unit)) (x0 : ByteArray) : runF tab ext4 false 40 [] 2000 [] tys4 Tryd.f4.results [false] (cutAt b4 4) (E4_4 v6 h1 x0) (L4_4 v6 h1 x0) = some ([Dyn.mk (Ty.sl (Ty.cons Ty.str (Ty.cons Ty.str (Ty.cons Ty.str Ty.unit)))) h1], [], [Decidable.decide (v6 < (↑(List.length (g9_0 x0)) : Int)) = Bool.false]) := by kernel_rfl
theorem snd4 : ∀ n, (∀ (x0 : ByteArray) ds, R4 n x0 ds → ∀ w0 O q, AtV Tryd.prog 4 (PostR ds [] [] q w0 O) 40 w0 O q [] [.code b4] (entE 0 0 sig4 (x0, ())) (entL sig4 (x0, ()))) ∧ (∀ (v6 : Int) (h1 : List (ByteArray × ByteArray × ByteArray × Unit)) (x0 : ByteArray) ds, R4_4 n v6 h1 x0 ds → ∀ w0 O q, AtV Tryd.prog 4 (PostR ds [] [] q w0 O) 40 w0 O q [] (cutAt b4 4) (E4_4 v6 h1 x0) (L4_4 v6 h1 x0)) := by
  intro n
  induction n with
  | zero => exact ⟨fun _ _ h => by simp only [R4] at h, fun _ _ _ _ h => by simp only [R4_4] at h⟩
  | succ n ih =>
  obtain ⟨ih, ih4⟩ := ih
  refine ⟨?_, ?_⟩
  · intro x0 ds h w0 O q
    rw [R4] at h
    obtain ⟨s0, h⟩ := h
    exact AtV.runN tabOk ext4Ok mixed (p4_0 x0) ⟨s0, trivial⟩ (ih4 _ _ _ _ h w0 O q)

  · intro v6 h1 x0 ds h w0 O q
    rw [R4_4] at h
    by_cases b0 : (Decidable.decide (v6 < (↑(List.length (g9_0 x0)) : Int))) = true
    · rw [if_pos b0] at h
      obtain ⟨s0, s1, h⟩ := h
      by_cases b1 : (g10_1 (List.getD (g9_0 x0) (Int.toNat v6) ByteArray.empty) != 0) = true
      · rw [if_pos b1] at h
        obtain ⟨s2, h⟩ := h
        exact AtV.runN tabOk ext4Ok mixed (p4_1 v6 h1 x0) ⟨b0, s0, s1, trivial, b1, s2, trivial⟩ (ih4 _ _ _ _ h w0 O q)
      · rw [if_neg b1] at h
        replace b1 := Bool.eq_false_iff.2 b1
        obtain ⟨s2, h⟩ := h
        by_cases b2 : (Decidable.decide ((↑(List.length (g11_0 h1 (g10_0 (List.getD (g9_0 x0) (Int.toNat v6) ByteArray.empty)))) : Int) ≤ 32)) = true
        · rw [if_pos b2] at h
          obtain ⟨s3, h⟩ := h
          exact AtV.runN tabOk ext4Ok mixed (p4_2 v6 h1 x0) ⟨b0, s0, s1, trivial, b1, s2, b2, s3, trivial⟩ (ih4 _ _ _ _ h w0 O q)
        · rw [if_neg b2] at h
          replace b2 := Bool.eq_false_iff.2 b2
          obtain ⟨s3, h⟩ := h
          exact AtV.runN tabOk ext4Ok mixed (p4_3 v6 h1 x0) ⟨b0, s0, s1, trivial, b1, s2, b2, s3, trivial⟩ (ih4 _ _ _ _ h w0 O q)
    · rw [if_neg b0] at h
      replace b0 := Bool.eq_false_iff.2 b0
      subst h
      exact AtV.fin Tryd.func4 tabOk ext4Ok mixed (p4_4 v6 h1 x0) ⟨b0, trivial⟩



def ls4 (x0 : ByteArray) : List ByteArray := g9_0 x0
def st4 (h : List (ByteArray × ByteArray × ByteArray × Unit)) (w : ByteArray) : List (ByteArray × ByteArray × ByteArray × Unit) := if g10_1 w ≠ 0 then h else if (g11_0 h (g10_0 w)).length ≤ 32 then g11_0 h (g10_0 w) else h
def g4_0 (x0 : ByteArray) : List (ByteArray × ByteArray × ByteArray × Unit) := ((ls4 x0).drop 1).foldl st4 []
def P4 (x0 : ByteArray) : Prop := P9 x0 ∧ (ls4 x0).length ≤ 1048577

theorem st4_len (h : List (ByteArray × ByteArray × ByteArray × Unit)) (w : ByteArray) (hl : h.length ≤ 32) : (st4 h w).length ≤ 32 := by
  unfold st4
  split
  · exact hl
  · split
    · assumption
    · exact hl

theorem run4 (x0 : ByteArray) (hl : (ls4 x0).length ≤ 1048577) : ∀ (k i : Nat) (h : List (ByteArray × ByteArray × ByteArray × Unit)), i + k = (ls4 x0).length ∨ (k = 0 ∧ (ls4 x0).length ≤ i) → h.length ≤ 32 → i ≤ 1048577 →
    R4_4 (k + 1) (i : Int) h x0 [⟨.sl (.cons .str (.cons .str (.cons .str .unit))), ((ls4 x0).drop i).foldl st4 h⟩] := by
  have ew : g9_0 x0 = ls4 x0 := rfl
  intro k
  induction k with
  | zero =>
    intro i h hi hh _
    rw [R4_4, ew, if_neg (by simp only [decide_eq_true_eq]; omega), List.drop_of_length_le (by omega)]
    rfl
  | succ k ih =>
    intro i h hi hh _
    have hlt : i < (ls4 x0).length := by omega
    have hup : InR .i64 ((i : Int) + 1) := by rw [i64_iff]; omega
    have e1 : (i : Int) + 1 = ((i + 1 : Nat) : Int) := by omega
    obtain ⟨w, hw⟩ : ∃ w, (ls4 x0).getD i ByteArray.empty = w := ⟨_, rfl⟩
    have hd : (ls4 x0).drop i = w :: (ls4 x0).drop (i + 1) := by rw [drop_get (ls4 x0) i ByteArray.empty hlt, hw]
    have hs := st4_len h w hh
    rw [hd, List.foldl_cons, R4_4, ew, if_pos (by simp only [decide_eq_true_eq]; omega)]
    simp only [Int.toNat_natCast, hw]
    refine ⟨by omega, by omega, ?_⟩
    have nx := ih (i + 1) (st4 h w) (by omega) hs (by omega)
    unfold st4 at nx hs ⊢
    by_cases hc : g10_1 w = 0
    · have hb : (g10_1 w != 0) = false := by rw [hc]; rfl
      rw [hb, if_neg (show ¬ false = true by decide)]
      rw [if_neg (show ¬ (g10_1 w ≠ 0) from fun hx => hx hc)] at nx ⊢
      refine ⟨(show h.length ≤ 1048576 from by omega), ?_⟩
      by_cases hp : (g11_0 h (g10_0 w)).length ≤ 32
      · rw [if_pos (show decide (((g11_0 h (g10_0 w)).length : Int) ≤ 32) = true from decide_eq_true (by omega))]
        rw [if_pos hp] at nx ⊢
        exact ⟨hup, by rw [e1]; exact nx⟩
      · rw [if_neg (show ¬ decide (((g11_0 h (g10_0 w)).length : Int) ≤ 32) = true from fun hh => by have := of_decide_eq_true hh; omega)]
        rw [if_neg hp] at nx ⊢
        exact ⟨hup, by rw [e1]; exact nx⟩
    · have hb : (g10_1 w != 0) = true := by simpa using hc
      rw [hb, if_pos rfl]
      rw [if_pos (show g10_1 w ≠ 0 from hc)] at nx ⊢
      exact ⟨hup, by rw [e1]; exact nx⟩

theorem top4 (x0 : ByteArray) (hp : P4 x0) : ∃ n, R4 n x0 [⟨.sl (.cons .str (.cons .str (.cons .str .unit))), g4_0 x0⟩] := by
  obtain ⟨p1, p2⟩ := hp
  refine ⟨((ls4 x0).length - 1 + 1) + 1, ?_⟩
  rw [R4]
  exact ⟨p1, run4 x0 p2 ((ls4 x0).length - 1) 1 [] (by omega) (by simp) (by omega)⟩

def S4 : Am.Spec := { sig := sig4, pre := fun ⟨x0, _⟩ => P4 x0, res := fun ⟨x0, _⟩ => [⟨.sl (.cons .str (.cons .str (.cons .str .unit))), g4_0 x0⟩] }
theorem con4 : Contract Tryd.prog 4 S4 := contract_of Tryd.func4 hb4 (Nat.le_of_ble_eq_true (by kernel_rfl)) (fun ⟨x0, _⟩ h hwf w0 O q => by
  obtain ⟨n, hn⟩ := top4 x0 h
  exact (snd4 n).1 x0 _ hn w0 O q)

end Go.Proofs.YticibijneahllaaDoor

/- Function 15 (laws.eqBlock): its runs between cut points. Written by a program of this repo (gen). -/
set_option linter.unusedVariables false
set_option linter.unusedSimpArgs false
set_option maxRecDepth 100000
namespace Go.Proofs.YticibijneahllaaDoor
open Go Go.Am Go.Proofs
def ext15 : Ext := []
theorem ext15Ok : ExtOk Tryd.prog ext15 := trivial
/-! Function 15. -/
noncomputable def b15 : Code := bodyOf Tryd.f15
theorem hb15 : Tryd.f15.body = some b15 := by kernel_rfl
def sig15 : List AT := [AT.v (Ty.cons Ty.str (Ty.cons Ty.str (Ty.cons Ty.str Ty.unit))), AT.v (Ty.cons Ty.str (Ty.cons Ty.str (Ty.cons Ty.str Ty.unit)))]
def tys15 : List Ty := [Ty.bool]
def P15 (x0 : ByteArray × ByteArray × ByteArray × Unit) (x1 : ByteArray × ByteArray × ByteArray × Unit) : Prop := True
def g15_0 (x0 : ByteArray × ByteArray × ByteArray × Unit) (x1 : ByteArray × ByteArray × ByteArray × Unit) : Bool := (if (!ByteArray.toList (Prod.fst x0) == ByteArray.toList (Prod.fst x1)) = true then Bool.false else (if (!ByteArray.toList (Prod.fst (Prod.snd x0)) == ByteArray.toList (Prod.fst (Prod.snd x1))) = true then Bool.false else (if (!ByteArray.toList (Prod.fst (Prod.snd (Prod.snd x0))) == ByteArray.toList (Prod.fst (Prod.snd (Prod.snd x1)))) = true then Bool.false else Bool.true)))
theorem p15_0 (x0 : ByteArray × ByteArray × ByteArray × Unit) (x1 : ByteArray × ByteArray × ByteArray × Unit) : runF tab ext15 false 20 [] 2000 [] tys15 Tryd.f15.results [true] [.code b15] (entE 0 0 sig15 (x0, x1, ())) (entL sig15 (x0, x1, ())) = some ([Dyn.mk Ty.bool Bool.false], [], [(!ByteArray.toList (Prod.fst x0) == ByteArray.toList (Prod.fst x1)) = Bool.true]) := by kernel_rfl
theorem p15_1 (x0 : ByteArray × ByteArray × ByteArray × Unit) (x1 : ByteArray × ByteArray × ByteArray × Unit) : runF tab ext15 false 20 [] 2000 [] tys15 Tryd.f15.results [false, true] [.code b15] (entE 0 0 sig15 (x0, x1, ())) (entL sig15 (x0, x1, ())) = some ([Dyn.mk Ty.bool Bool.false], [], [(!ByteArray.toList (Prod.fst x0) == ByteArray.toList (Prod.fst x1)) = Bool.false, (!ByteArray.toList (Prod.fst (Prod.snd x0)) == ByteArray.toList (Prod.fst (Prod.snd x1))) = Bool.true]) := by kernel_rfl
theorem p15_2 (x0 : ByteArray × ByteArray × ByteArray × Unit) (x1 : ByteArray × ByteArray × ByteArray × Unit) : runF tab ext15 false 20 [] 2000 [] tys15 Tryd.f15.results [false, false, true] [.code b15] (entE 0 0 sig15 (x0, x1, ())) (entL sig15 (x0, x1, ())) = some ([Dyn.mk Ty.bool Bool.false], [], [(!ByteArray.toList (Prod.fst x0) == ByteArray.toList (Prod.fst x1)) = Bool.false, (!ByteArray.toList (Prod.fst (Prod.snd x0)) == ByteArray.toList (Prod.fst (Prod.snd x1))) = Bool.false, (!ByteArray.toList (Prod.fst (Prod.snd (Prod.snd x0))) == ByteArray.toList (Prod.fst (Prod.snd (Prod.snd x1)))) = Bool.true]) := by kernel_rfl
theorem p15_3 (x0 : ByteArray × ByteArray × ByteArray × Unit) (x1 : ByteArray × ByteArray × ByteArray × Unit) : runF tab ext15 false 20 [] 2000 [] tys15 Tryd.f15.results [false, false, false] [.code b15] (entE 0 0 sig15 (x0, x1, ())) (entL sig15 (x0, x1, ())) = some ([Dyn.mk Ty.bool Bool.true], [], [(!ByteArray.toList (Prod.fst x0) == ByteArray.toList (Prod.fst x1)) = Bool.false, (!ByteArray.toList (Prod.fst (Prod.snd x0)) == ByteArray.toList (Prod.fst (Prod.snd x1))) = Bool.false, (!ByteArray.toList (Prod.fst (Prod.snd (Prod.snd x0))) == ByteArray.toList (Prod.fst (Prod.snd (Prod.snd x1)))) = Bool.false]) := by kernel_rfl
theorem at15 (x0 : ByteArray × ByteArray × ByteArray × Unit) (x1 : ByteArray × ByteArray × ByteArray × Unit) (h : P15 x0 x1) (w0 : World) (O : List Nat) (q : Nat → Value) : AtV Tryd.prog 15 (PostR [⟨Ty.bool, g15_0 x0 x1⟩] [] [] q w0 O) 20 w0 O q [] [.code b15] (entE 0 0 sig15 (x0, x1, ())) (entL sig15 (x0, x1, ())) := by
  unfold P15 at h
  unfold g15_0
  by_cases b0 : (!ByteArray.toList (Prod.fst x0) == ByteArray.toList (Prod.fst x1)) = true
  · try simp only [if_pos b0] at h ⊢
    exact AtV.fin Tryd.func15 tabOk ext15Ok mixed (p15_0 x0 x1) ⟨b0, trivial⟩
  · try simp only [if_neg b0] at h ⊢
    replace b0 := Bool.eq_false_iff.2 b0
    by_cases b1 : (!ByteArray.toList (Prod.fst (Prod.snd x0)) == ByteArray.toList (Prod.fst (Prod.snd x1))) = true
    · try simp only [if_pos b1] at h ⊢
      exact AtV.fin Tryd.func15 tabOk ext15Ok mixed (p15_1 x0 x1) ⟨b0, b1, trivial⟩
    · try simp only [if_neg b1] at h ⊢
      replace b1 := Bool.eq_false_iff.2 b1
      by_cases b2 : (!ByteArray.toList (Prod.fst (Prod.snd (Prod.snd x0))) == ByteArray.toList (Prod.fst (Prod.snd (Prod.snd x1)))) = true
      · try simp only [if_pos b2] at h ⊢
        exact AtV.fin Tryd.func15 tabOk ext15Ok mixed (p15_2 x0 x1) ⟨b0, b1, b2, trivial⟩
      · try simp only [if_neg b2] at h ⊢
        replace b2 := Bool.eq_false_iff.2 b2
        exact AtV.fin Tryd.func15 tabOk ext15Ok mixed (p15_3 x0 x1) ⟨b0, b1, b2, trivial⟩

def S15 : Am.Spec := { sig := sig15, pre := fun ⟨x0, x1, _⟩ => P15 x0 x1, res := fun ⟨x0, x1, _⟩ => [⟨Ty.bool, g15_0 x0 x1⟩] }
theorem con15 : Contract Tryd.prog 15 S15 := contract_of Tryd.func15 hb15 (Nat.le_of_ble_eq_true (by kernel_rfl)) (fun ⟨x0, x1, _⟩ h _ w0 O q => at15 x0 x1 h w0 O q)


theorem eqd15 (x y : ByteArray × ByteArray × ByteArray × Unit) : g15_0 x y = true ↔ x = y := by
  obtain ⟨a, b, c, u⟩ := x
  obtain ⟨a', b', c', u'⟩ := y
  unfold g15_0
  simp only [Bool.not_eq_true', bytes_ne]
  by_cases h1 : a = a'
  · by_cases h2 : b = b'
    · by_cases h3 : c = c'
      · simp [h1, h2, h3]
      · simp [h1, h2, h3]
    · simp [h1, h2]
  · simp [h1]

end Go.Proofs.YticibijneahllaaDoor

/- Function 6 (laws.eqBlockS): its runs between cut points. Written by a program of this repo (gen). -/
set_option linter.unusedVariables false
set_option linter.unusedSimpArgs false
set_option maxRecDepth 100000
namespace Go.Proofs.YticibijneahllaaDoor
open Go Go.Am Go.Proofs
def ext6 : Ext := [(15, S15)]
theorem call6_15 : Callable Tryd.prog 15 := ⟨Tryd.f15, Tryd.func15, by kernel_rfl, by kernel_rfl⟩
theorem ext6Ok : ExtOk Tryd.prog ext6 := ⟨⟨call6_15, con15⟩, trivial⟩
/-! Function 6. -/
noncomputable def b6 : Code := bodyOf Tryd.f6
theorem hb6 : Tryd.f6.body = some b6 := by kernel_rfl
def sig6 : List AT := [AT.v (Ty.sl (Ty.cons Ty.str (Ty.cons Ty.str (Ty.cons Ty.str Ty.unit)))), AT.v (Ty.sl (Ty.cons Ty.str (Ty.cons Ty.str (Ty.cons Ty.str Ty.unit))))]
def tys6 : List Ty := [Ty.bool]
def E6_4 (v5 : Int) (x0 : List (ByteArray × ByteArray × ByteArray × Unit)) (x1 : List (ByteArray × ByteArray × ByteArray × Unit)) : Env := [(0, PV.a (Atom.sl (Ty.cons Ty.str (Ty.cons Ty.str (Ty.cons Ty.str Ty.unit))) x0)), (1, PV.a (Atom.sl (Ty.cons Ty.str (Ty.cons Ty.str (Ty.cons Ty.str Ty.unit))) x1)), (5, PV.a (Atom.val (Value.int IntKind.i64 v5)))]
def L6_4 (v5 : Int) (x0 : List (ByteArray × ByteArray × ByteArray × Unit)) (x1 : List (ByteArray × ByteArray × ByteArray × Unit)) : Heap := []
mutual
def R6 : Nat → List (ByteArray × ByteArray × ByteArray × Unit) → List (ByteArray × ByteArray × ByteArray × Unit) → List Dyn → Prop
  | 0, _, _, _ => False
  | n + 1, x0, x1, ds => (if ((↑(List.length x0) : Int) != (↑(List.length x1) : Int)) = true then (ds = [Dyn.mk Ty.bool Bool.false]) else (R6_4 n (0) (x0) (x1) ds))
def R6_4 : Nat → Int → List (ByteArray × ByteArray × ByteArray × Unit) → List (ByteArray × ByteArray × ByteArray × Unit) → List Dyn → Prop
  | 0, _, _, _, _ => False
  | n + 1, v5, x0, x1, ds => (if (Decidable.decide (v5 < (↑(List.length x0) : Int))) = true then ((0 ≤ v5) ∧ (v5 < (↑(List.length x0) : Int)) ∧ ((0 ≤ v5) ∧ (v5 < (↑(List.length x1) : Int)) ∧ (if (!g15_0 (List.getD x0 (Int.toNat v5) (ByteArray.empty, ByteArray.empty, ByteArray.empty, ())) (List.getD x1 (Int.toNat v5) (ByteArray.empty, ByteArray.empty, ByteArray.empty, ()))) = true then (ds = [Dyn.mk Ty.bool Bool.false]) else ((InR IntKind.i64 (v5 + 1)) ∧ (R6_4 n (v5 + 1) (x0) (x1) ds))))) else (ds = [Dyn.mk Ty.bool Bool.true]))
end
theorem p6_0 (x0 : List (ByteArray × ByteArray × ByteArray × Unit)) (x1 : List (ByteArray × ByteArray × ByteArray × Unit)) : runF tab ext6 false 27 [] 2000 [] tys6 Tryd.f6.results [true] [.code b6] (entE 0 0 sig6 (x0, x1, ())) (entL sig6 (x0, x1, ())) = some ([Dyn.mk Ty.bool Bool.false], [], [((↑(List.length x0) : Int) != (↑(List.length x1) : Int)) = Bool.true]) := by kernel_rfl
theorem p6_1 (x0 : List (ByteArray × ByteArray × ByteArray × Unit)) (x1 : List (ByteArray × ByteArray × ByteArray × Unit)) : Am.runN tab ext6 false 27 [] 2000 [] [] [0, 1, 5] [] [false] [.code b6] (entE 0 0 sig6 (x0, x1, ())) (entL sig6 (x0, x1, ())) = some (cutAt b6 4, E6_4 (0) (x0) (x1), L6_4 (0) (x0) (x1), [((↑(List.length x0) : Int) != (↑(List.length x1) : Int)) = Bool.false]) := by kernel_rfl
theorem p6_2 (v5 : Int) (x0 : List (ByteArray × ByteArray × ByteArray × Unit)) (x1 : List (ByteArray × ByteArray × ByteArray × Unit)) : runF tab ext6 false 27 [] 2000 [] tys6 Tryd.f6.results [true, true] (cutAt b6 4) (E6_4 v5 x0 x1) (L6_4 v5 x0 x1) = some ([Dyn.mk Ty.bool Bool.false], [], [Decidable.decide (v5 < (↑(List.length x0) : Int)) = Bool.true, 0 ≤ v5, v5 < (↑(List.length x0) : Int), 0 ≤ v5, v5 < (↑(List.length x1) : Int), True, (!g15_0 (List.getD x0 (Int.toNat v5) (ByteArray.empty, ByteArray.empty, ByteArray.empty, ())) (List.getD x1 (Int.toNat v5) (ByteArray.empty, ByteArray.empty, ByteArray.empty, ()))) = Bool.true]) := by kernel_rfl
theorem p6_3 (v5 : Int) (x0 : List (ByteArray × ByteArray × ByteArray × Unit)) (x1 : List (ByteArray × ByteArray × ByteArray × Unit)) : Am.runN tab ext6 false 27 [] 2000 [] [] [0, 1, 5] [] [true, false] (cutAt b6 4) (E6_4 v5 x0 x1) (L6_4 v5 x0 x1) = some (cutAt b6 4, E6_4 (v5 + 1) (x0) (x1), L6_4 (v5 + 1) (x0) (x1), [Decidable.decide (v5 < (↑(List.length x0) : Int)) = Bool.true, 0 ≤ v5, v5 < (↑(List.length x0) : Int), 0 ≤ v5, v5 < (↑(List.length x1) : Int), True, (!g15_0 (List.getD x0 (Int.toNat v5) (ByteArray.empty, ByteArray.empty, ByteArray.empty, ())) (List.getD x1 (Int.toNat v5) (ByteArray.empty, ByteArray.empty, ByteArray.empty, ()))) = Bool.false, InR IntKind.i64 (v5 + 1)]) := by kernel_rfl
theorem p6_4 (v5 : Int) (x0 : List (ByteArray × ByteArray × ByteArray × Unit)) (x1 : List (ByteArray × ByteArray × ByteArray × Unit)) : runF tab ext6 false 27 [] 2000 [] tys6 Tryd.f6.results [false] (cutAt b6 4) (E6_4 v5 x0 x1) (L6_4 v5 x0 x1) = some ([Dyn.mk Ty.bool Bool.true], [], [Decidable.decide (v5 < (↑(List.length x0) : Int)) = Bool.false]) := by kernel_rfl
theorem snd6 : ∀ n, (∀ (x0 : List (ByteArray × ByteArray × ByteArray × Unit)) (x1 : List (ByteArray × ByteArray × ByteArray × Unit)) ds, R6 n x0 x1 ds → ∀ w0 O q, AtV Tryd.prog 6 (PostR ds [] [] q w0 O) 27 w0 O q [] [.code b6] (entE 0 0 sig6 (x0, x1, ())) (entL sig6 (x0, x1, ()))) ∧ (∀ (v5 : Int) (x0 : List (ByteArray × ByteArray × ByteArray × Unit)) (x1 : List (ByteArray × ByteArray × ByteArray × Unit)) ds, R6_4 n v5 x0 x1 ds → ∀ w0 O q, AtV Tryd.prog 6 (PostR ds [] [] q w0 O) 27 w0 O q [] (cutAt b6 4) (E6_4 v5 x0 x1) (L6_4 v5 x0 x1)) := by
  intro n
  induction n with
  | zero => exact ⟨fun _ _ _ h => by simp only [R6] at h, fun _ _ _ _ h => by simp only [R6_4] at h⟩
  | succ n ih =>
  obtain ⟨ih, ih4⟩ := ih
  refine ⟨?_, ?_⟩
  · intro x0 x1 ds h w0 O q
    rw [R6] at h
    by_cases b0 : ((↑(List.length x0) : Int) != (↑(List.length x1) : Int)) = true
    · rw [if_pos b0] at h
      subst h
      exact AtV.fin Tryd.func6 tabOk ext6Ok mixed (p6_0 x0 x1) ⟨b0, trivial⟩
    · rw [if_neg b0] at h
      replace b0 := Bool.eq_false_iff.2 b0
      exact AtV.runN tabOk ext6Ok mixed (p6_1 x0 x1) ⟨b0, trivial⟩ (ih4 _ _ _ _ h w0 O q)

  · intro v5 x0 x1 ds h w0 O q
    rw [R6_4] at h
    by_cases b0 : (Decidable.decide (v5 < (↑(List.length x0) : Int))) = true
    · rw [if_pos b0] at h
      obtain ⟨s0, s1, h⟩ := h
      obtain ⟨s2, s3, h⟩ := h
      by_cases b1 : (!g15_0 (List.getD x0 (Int.toNat v5) (ByteArray.empty, ByteArray.empty, ByteArray.empty, ())) (List.getD x1 (Int.toNat v5) (ByteArray.empty, ByteArray.empty, ByteArray.empty, ()))) = true
      · rw [if_pos b1] at h
        subst h
        exact AtV.fin Tryd.func6 tabOk ext6Ok mixed (p6_2 v5 x0 x1) ⟨b0, s0, s1, s2, s3, trivial, b1, trivial⟩
      · rw [if_neg b1] at h
        replace b1 := Bool.eq_false_iff.2 b1
        obtain ⟨s4, h⟩ := h
        exact AtV.runN tabOk ext6Ok mixed (p6_3 v5 x0 x1) ⟨b0, s0, s1, s2, s3, trivial, b1, s4, trivial⟩ (ih4 _ _ _ _ h w0 O q)
    · rw [if_neg b0] at h
      replace b0 := Bool.eq_false_iff.2 b0
      subst h
      exact AtV.fin Tryd.func6 tabOk ext6Ok mixed (p6_4 v5 x0 x1) ⟨b0, trivial⟩



theorem eq6 (x0 x1 : List (ByteArray × ByteArray × ByteArray × Unit)) (hl : x0.length = x1.length) (hm : x0.length ≤ maxLen) : ∀ k i : Nat, i + k = x0.length → R6_4 (k + 1) (i : Int) x0 x1 [⟨.bool, decide (x0.drop i = x1.drop i)⟩] := by
  intro k
  induction k with
  | zero =>
    intro i hi
    have h1 : ¬ (i : Int) < (x0.length : Int) := by omega
    rw [R6_4, if_neg (by simpa using h1), drop_end x0 i (by omega), drop_end x1 i (by omega)]
    simp
  | succ k ih =>
    intro i hi
    have h1 : (i : Int) < (x0.length : Int) := by omega
    rw [R6_4, if_pos (by simpa using h1)]
    refine ⟨by omega, h1, by omega, by omega, ?_⟩
    simp only [Int.toNat_natCast]
    rw [drop_get x0 i (ByteArray.empty, ByteArray.empty, ByteArray.empty, ()) (by omega), drop_get x1 i (ByteArray.empty, ByteArray.empty, ByteArray.empty, ()) (by omega)]
    by_cases he : x0.getD i (ByteArray.empty, ByteArray.empty, ByteArray.empty, ()) = x1.getD i (ByteArray.empty, ByteArray.empty, ByteArray.empty, ())
    · have hd := (eqd15 _ _).2 he
      rw [if_neg (by rw [hd]; simp)]
      refine ⟨inR_up hm (by omega), ?_⟩
      have := ih (i + 1) (by omega)
      simp only [he, List.cons.injEq, true_and]
      exact this
    · have hd : g15_0 (x0.getD i (ByteArray.empty, ByteArray.empty, ByteArray.empty, ())) (x1.getD i (ByteArray.empty, ByteArray.empty, ByteArray.empty, ())) = false :=
        Bool.eq_false_iff.2 fun h => he ((eqd15 _ _).1 h)
      rw [if_pos (by rw [hd]; rfl)]
      simp only [he, List.cons.injEq, false_and, decide_false]

def g6_0 (x0 x1 : List (ByteArray × ByteArray × ByteArray × Unit)) : Bool := decide (x0 = x1)
def P6 (x0 x1 : List (ByteArray × ByteArray × ByteArray × Unit)) : Prop := True
def S6 : Am.Spec := { sig := sig6, pre := fun ⟨x0, x1, _⟩ => P6 x0 x1, res := fun ⟨x0, x1, _⟩ => [⟨Ty.bool, g6_0 x0 x1⟩] }
theorem con6 : Contract Tryd.prog 6 S6 := contract_of Tryd.func6 hb6 (Nat.le_of_ble_eq_true (by kernel_rfl)) (fun ⟨x0, x1, _⟩ h hwf w0 O q => by
  refine (snd6 (x0.length + 2)).1 x0 x1 _ ?_ w0 O q
  show R6 (x0.length + 1 + 1) x0 x1 [⟨Ty.bool, decide (x0 = x1)⟩]
  rw [R6]
  by_cases hl : x0.length = x1.length
  · rw [if_neg (by simp [hl])]
    have := eq6 x0 x1 hl hwf.1.1 x0.length 0 (by omega)
    simpa using this
  · rw [if_pos (by simp; omega)]
    have : x0 ≠ x1 := fun h => hl (by rw [h])
    simp [this])

end Go.Proofs.YticibijneahllaaDoor

/- Function 16 (laws.markText): its runs between cut points. Written by a program of this repo (gen). -/
set_option linter.unusedVariables false
set_option linter.unusedSimpArgs false
set_option maxRecDepth 100000
namespace Go.Proofs.YticibijneahllaaDoor
open Go Go.Am Go.Proofs
def ext16 : Ext := []
theorem ext16Ok : ExtOk Tryd.prog ext16 := trivial
/-! Function 16. -/
noncomputable def b16 : Code := bodyOf Tryd.f16
theorem hb16 : Tryd.f16.body = some b16 := by kernel_rfl
def sig16 : List AT := [AT.v (Ty.int IntKind.i64)]
def tys16 : List Ty := [Ty.str]
def E16_4 (v3 : ByteArray) (x0 : Int) : Env := [(0, PV.a (Atom.val (Value.int IntKind.i64 x0))), (3, PV.a (Atom.val (Value.string v3)))]
def L16_4 (v3 : ByteArray) (x0 : Int) : Heap := []
mutual
def R16 : Nat → Int → List Dyn → Prop
  | 0, _, _ => False
  | n + 1, x0, ds => (if (Decidable.decide (x0 ≤ 0)) = true then (ds = [Dyn.mk Ty.str (ByteArray.mk #[109, 48])]) else (R16_4 n (ByteArray.mk #[]) (x0) ds))
def R16_4 : Nat → ByteArray → Int → List Dyn → Prop
  | 0, _, _, _ => False
  | n + 1, v3, x0, ds => (if (Decidable.decide (x0 > 0)) = true then ((InR IntKind.i64 (Int.tmod x0 10)) ∧ ((InR IntKind.i64 (48 + Int.tmod x0 10)) ∧ ((InR IntKind.u8 (48 + Int.tmod x0 10)) ∧ ((ByteArray.size (bytesStr [48 + Int.tmod x0 10]) + ByteArray.size v3 ≤ 9223372036854775807) ∧ ((InR IntKind.i64 (Int.tdiv x0 10)) ∧ (R16_4 n (bytesStr [48 + Int.tmod x0 10] ++ v3) (Int.tdiv x0 10) ds)))))) else ((1 + ByteArray.size v3 ≤ 9223372036854775807) ∧ (ds = [Dyn.mk Ty.str (ByteArray.mk #[109] ++ v3)])))
end
theorem p16_0 (x0 : Int) : runF tab ext16 false 20 [] 2000 [] tys16 Tryd.f16.results [true] [.code b16] (entE 0 0 sig16 (x0, ())) (entL sig16 (x0, ())) = some ([Dyn.mk Ty.str (ByteArray.mk #[109, 48])], [], [Decidable.decide (x0 ≤ 0) = Bool.true]) := by kernel_rfl
theorem p16_1 (x0 : Int) : Am.runN tab ext16 false 20 [] 2000 [] [] [0, 3] [] [false] [.code b16] (entE 0 0 sig16 (x0, ())) (entL sig16 (x0, ())) = some (cutAt b16 4, E16_4 (ByteArray.mk #[]) (x0), L16_4 (ByteArray.mk #[]) (x0), [Decidable.decide (x0 ≤ 0) = Bool.false]) := by kernel_rfl
theorem p16_2 (v3 : ByteArray) (x0 : Int) : Am.runN tab ext16 false 20 [] 2000 [] [] [0, 3] [] [true] (cutAt b16 4) (E16_4 v3 x0) (L16_4 v3 x0) = some (cutAt b16 4, E16_4 (bytesStr [48 + Int.tmod x0 10] ++ v3) (Int.tdiv x0 10), L16_4 (bytesStr [48 + Int.tmod x0 10] ++ v3) (Int.tdiv x0 10), [Decidable.decide (x0 > 0) = Bool.true, (10 : Int) ≠ (0 : Int), InR IntKind.i64 (Int.tmod x0 10), InR IntKind.i64 (48 + Int.tmod x0 10), InR IntKind.u8 (48 + Int.tmod x0 10), ByteArray.size (bytesStr [48 + Int.tmod x0 10]) + ByteArray.size v3 ≤ 9223372036854775807, (10 : Int) ≠ (0 : Int), InR IntKind.i64 (Int.tdiv x0 10)]) := by kernel_rfl
theorem p16_3 (v3 : ByteArray) (x0 : Int) : runF tab ext16 false 20 [] 2000 [] tys16 Tryd.f16.results [false] (cutAt b16 4) (E16_4 v3 x0) (L16_4 v3 x0) = some ([Dyn.mk Ty.str (ByteArray.mk #[109] ++ v3)], [], [Decidable.decide (x0 > 0) = Bool.false, 1 + ByteArray.size v3 ≤ 9223372036854775807]) := by kernel_rfl
theorem snd16 : ∀ n, (∀ (x0 : Int) ds, R16 n x0 ds → ∀ w0 O q, AtV Tryd.prog 16 (PostR ds [] [] q w0 O) 20 w0 O q [] [.code b16] (entE 0 0 sig16 (x0, ())) (entL sig16 (x0, ()))) ∧ (∀ (v3 : ByteArray) (x0 : Int) ds, R16_4 n v3 x0 ds → ∀ w0 O q, AtV Tryd.prog 16 (PostR ds [] [] q w0 O) 20 w0 O q [] (cutAt b16 4) (E16_4 v3 x0) (L16_4 v3 x0)) := by
  intro n
  induction n with
  | zero => exact ⟨fun _ _ h => by simp only [R16] at h, fun _ _ _ h => by simp only [R16_4] at h⟩
  | succ n ih =>
  obtain ⟨ih, ih4⟩ := ih
  refine ⟨?_, ?_⟩
  · intro x0 ds h w0 O q
    rw [R16] at h
    by_cases b0 : (Decidable.decide (x0 ≤ 0)) = true
    · rw [if_pos b0] at h
      subst h
      exact AtV.fin Tryd.func16 tabOk ext16Ok mixed (p16_0 x0) ⟨b0, trivial⟩
    · rw [if_neg b0] at h
      replace b0 := Bool.eq_false_iff.2 b0
      exact AtV.runN tabOk ext16Ok mixed (p16_1 x0) ⟨b0, trivial⟩ (ih4 _ _ _ h w0 O q)

  · intro v3 x0 ds h w0 O q
    rw [R16_4] at h
    by_cases b0 : (Decidable.decide (x0 > 0)) = true
    · rw [if_pos b0] at h
      obtain ⟨s0, h⟩ := h
      obtain ⟨s1, h⟩ := h
      obtain ⟨s2, h⟩ := h
      obtain ⟨s3, h⟩ := h
      obtain ⟨s4, h⟩ := h
      exact AtV.runN tabOk ext16Ok mixed (p16_2 v3 x0) ⟨b0, (by decide), s0, s1, s2, s3, (by decide), s4, trivial⟩ (ih4 _ _ _ h w0 O q)
    · rw [if_neg b0] at h
      replace b0 := Bool.eq_false_iff.2 b0
      obtain ⟨s0, h⟩ := h
      subst h
      exact AtV.fin Tryd.func16 tabOk ext16Ok mixed (p16_3 v3 x0) ⟨b0, s0, trivial⟩



def loop16 : Nat → ByteArray → Int → ByteArray
  | 0, v, _ => v
  | n + 1, v, x => if 0 < x then loop16 n (bytesStr [48 + Int.tmod x 10] ++ v) (Int.tdiv x 10) else v

theorem run16 : ∀ (n : Nat) (v : ByteArray) (x : Int), x < 10 ^ n → InR .i64 x → v.size + n ≤ 1000 → R16_4 (n + 1) v x [⟨.str, ByteArray.mk #[109] ++ loop16 n v x⟩] := by
  intro n
  induction n with
  | zero =>
    intro v x h1 _ h2
    rw [R16_4, if_neg (by simp at h1 ⊢; omega)]
    exact ⟨by omega, rfl⟩
  | succ n ih =>
    intro v x h1 hi h2
    rw [i64_iff] at hi
    rw [R16_4]
    by_cases hx : 0 < x
    · rw [if_pos (by simpa using hx)]
      have e1 : Int.tmod x 10 = x % 10 := Int.tmod_eq_emod_of_nonneg (by omega)
      have e2 : Int.tdiv x 10 = x / 10 := Int.tdiv_eq_ediv_of_nonneg (by omega)
      have hs : (bytesStr [48 + Int.tmod x 10]).size = 1 := bytesStr_size _
      have hp : (10 : Int) ^ (n + 1) = 10 * 10 ^ n := by rw [Int.pow_succ, Int.mul_comm]
      refine ⟨by rw [i64_iff, e1]; omega, by rw [i64_iff, e1]; omega, by rw [u8_iff, e1]; omega, by rw [hs]; omega, by rw [i64_iff, e2]; omega, ?_⟩
      have := ih (bytesStr [48 + Int.tmod x 10] ++ v) (Int.tdiv x 10) (by rw [e2]; omega) (by rw [i64_iff, e2]; omega) (by rw [ByteArray.size_append, hs]; omega)
      simp only [loop16, if_pos hx]
      exact this
    · rw [if_neg (by simp; omega)]
      simp only [loop16, if_neg hx]
      exact ⟨by omega, trivial⟩

def g16_0 (x0 : Int) : ByteArray := if x0 ≤ 0 then ByteArray.mk #[109, 48] else ByteArray.mk #[109] ++ loop16 19 (ByteArray.mk #[]) x0
def P16 (x0 : Int) : Prop := True

theorem top16 (x0 : Int) (hi : InR .i64 x0) : R16 21 x0 [⟨.str, g16_0 x0⟩] := by
  rw [R16]
  unfold g16_0
  by_cases h : x0 ≤ 0
  · rw [if_pos (by simpa using h), if_pos h]
  · rw [if_neg (by simpa using h), if_neg h]
    have hi' := hi
    rw [i64_iff] at hi'
    exact run16 19 _ x0 (by omega) hi (by decide)

def S16 : Am.Spec := { sig := sig16, pre := fun ⟨x0, _⟩ => P16 x0, res := fun ⟨x0, _⟩ => [⟨.str, g16_0 x0⟩] }
theorem con16 : Contract Tryd.prog 16 S16 := contract_of Tryd.func16 hb16 (Nat.le_of_ble_eq_true (by kernel_rfl)) (fun ⟨x0, _⟩ h hwf w0 O q =>
  (snd16 _).1 x0 _ (top16 x0 hwf.1) w0 O q)

end Go.Proofs.YticibijneahllaaDoor

/- Function 7 (laws.markBlockS): its runs between cut points. Written by a program of this repo (gen). -/
set_option linter.unusedVariables false
set_option linter.unusedSimpArgs false
set_option maxRecDepth 100000
namespace Go.Proofs.YticibijneahllaaDoor
open Go Go.Am Go.Proofs
def ext7 : Ext := [(16, S16)]
theorem call7_16 : Callable Tryd.prog 16 := ⟨Tryd.f16, Tryd.func16, by kernel_rfl, by kernel_rfl⟩
theorem ext7Ok : ExtOk Tryd.prog ext7 := ⟨⟨call7_16, con16⟩, trivial⟩
/-! Function 7. -/
noncomputable def b7 : Code := bodyOf Tryd.f7
theorem hb7 : Tryd.f7.body = some b7 := by kernel_rfl
def sig7 : List AT := [AT.own (Ty.cons Ty.str (Ty.cons Ty.str (Ty.cons Ty.str Ty.unit))), AT.v (Ty.int IntKind.i64)]
def tys7 : List Ty := [Ty.int IntKind.i64]
def E7_2 (v5 : Int) (x1 : Int) (x0 : List (ByteArray × ByteArray × ByteArray × Unit)) : Env := [(0, PV.a (Atom.osl 0 Option.none)), (1, PV.a (Atom.val (Value.int IntKind.i64 x1))), (5, PV.a (Atom.val (Value.int IntKind.i64 v5)))]
def L7_2 (v5 : Int) (x1 : Int) (x0 : List (ByteArray × ByteArray × ByteArray × Unit)) : Heap := [Option.some (Arr.mk (Ty.cons Ty.str (Ty.cons Ty.str (Ty.cons Ty.str Ty.unit))) x0 Bool.false)]
mutual
def R7 : Nat → List (ByteArray × ByteArray × ByteArray × Unit) → Int → List Dyn → List (Option Lst) → Prop
  | 0, _, _, _, _ => False
  | n + 1, x0, x1, ds, us => (R7_2 n (0) (x1) (x0) ds us)
def R7_2 : Nat → Int → Int → List (ByteArray × ByteArray × ByteArray × Unit) → List Dyn → List (Option Lst) → Prop
  | 0, _, _, _, _, _ => False
  | n + 1, v5, x1, x0, ds, us => (if (Decidable.decide (v5 < (↑(List.length x0) : Int))) = true then ((0 ≤ v5) ∧ (v5 < (↑(List.length x0) : Int)) ∧ ((InR IntKind.i64 (x1 + 1)) ∧ ((0 ≤ v5) ∧ (v5 < (↑(List.length (List.set x0 (Int.toNat v5) (g16_0 x1, Prod.snd (List.getD x0 (Int.toNat v5) (ByteArray.empty, ByteArray.empty, ByteArray.empty, ()))))) : Int)) ∧ ((InR IntKind.i64 (x1 + 1 + 1)) ∧ ((0 ≤ v5) ∧ (v5 < (↑(List.length (List.set (List.set x0 (Int.toNat v5) (g16_0 x1, Prod.snd (List.getD x0 (Int.toNat v5) (ByteArray.empty, ByteArray.empty, ByteArray.empty, ())))) (Int.toNat v5) (Prod.fst (List.getD (List.set x0 (Int.toNat v5) (g16_0 x1, Prod.snd (List.getD x0 (Int.toNat v5) (ByteArray.empty, ByteArray.empty, ByteArray.empty, ())))) (Int.toNat v5) (ByteArray.empty, ByteArray.empty, ByteArray.empty, ())), g16_0 (x1 + 1), Prod.snd (Prod.snd (List.getD (List.set x0 (Int.toNat v5) (g16_0 x1, Prod.snd (List.getD x0 (Int.toNat v5) (ByteArray.empty, ByteArray.empty, ByteArray.empty, ())))) (Int.toNat v5) (ByteArray.empty, ByteArray.empty, ByteArray.empty, ())))))) : Int)) ∧ ((InR IntKind.i64 (x1 + 1 + 1 + 1)) ∧ ((InR IntKind.i64 (v5 + 1)) ∧ (R7_2 n (v5 + 1) (x1 + 1 + 1 + 1) (List.set (List.set (List.set x0 (Int.toNat v5) (g16_0 x1, Prod.snd (List.getD x0 (Int.toNat v5) (ByteArray.empty, ByteArray.empty, ByteArray.empty, ())))) (Int.toNat v5) (Prod.fst (List.getD (List.set x0 (Int.toNat v5) (g16_0 x1, Prod.snd (List.getD x0 (Int.toNat v5) (ByteArray.empty, ByteArray.empty, ByteArray.empty, ())))) (Int.toNat v5) (ByteArray.empty, ByteArray.empty, ByteArray.empty, ())), g16_0 (x1 + 1), Prod.snd (Prod.snd (List.getD (List.set x0 (Int.toNat v5) (g16_0 x1, Prod.snd (List.getD x0 (Int.toNat v5) (ByteArray.empty, ByteArray.empty, ByteArray.empty, ())))) (Int.toNat v5) (ByteArray.empty, ByteArray.empty, ByteArray.empty, ()))))) (Int.toNat v5) (Prod.fst (List.getD (List.set (List.set x0 (Int.toNat v5) (g16_0 x1, Prod.snd (List.getD x0 (Int.toNat v5) (ByteArray.empty, ByteArray.empty, ByteArray.empty, ())))) (Int.toNat v5) (Prod.fst (List.getD (List.set x0 (Int.toNat v5) (g16_0 x1, Prod.snd (List.getD x0 (Int.toNat v5) (ByteArray.empty, ByteArray.empty, ByteArray.empty, ())))) (Int.toNat v5) (ByteArray.empty, ByteArray.empty, ByteArray.empty, ())), g16_0 (x1 + 1), Prod.snd (Prod.snd (List.getD (List.set x0 (Int.toNat v5) (g16_0 x1, Prod.snd (List.getD x0 (Int.toNat v5) (ByteArray.empty, ByteArray.empty, ByteArray.empty, ())))) (Int.toNat v5) (ByteArray.empty, ByteArray.empty, ByteArray.empty, ()))))) (Int.toNat v5) (ByteArray.empty, ByteArray.empty, ByteArray.empty, ())), Prod.fst (Prod.snd (List.getD (List.set (List.set x0 (Int.toNat v5) (g16_0 x1, Prod.snd (List.getD x0 (Int.toNat v5) (ByteArray.empty, ByteArray.empty, ByteArray.empty, ())))) (Int.toNat v5) (Prod.fst (List.getD (List.set x0 (Int.toNat v5) (g16_0 x1, Prod.snd (List.getD x0 (Int.toNat v5) (ByteArray.empty, ByteArray.empty, ByteArray.empty, ())))) (Int.toNat v5) (ByteArray.empty, ByteArray.empty, ByteArray.empty, ())), g16_0 (x1 + 1), Prod.snd (Prod.snd (List.getD (List.set x0 (Int.toNat v5) (g16_0 x1, Prod.snd (List.getD x0 (Int.toNat v5) (ByteArray.empty, ByteArray.empty, ByteArray.empty, ())))) (Int.toNat v5) (ByteArray.empty, ByteArray.empty, ByteArray.empty, ()))))) (Int.toNat v5) (ByteArray.empty, ByteArray.empty, ByteArray.empty, ()))), g16_0 (x1 + 1 + 1), Prod.snd (Prod.snd (Prod.snd (List.getD (List.set (List.set x0 (Int.toNat v5) (g16_0 x1, Prod.snd (List.getD x0 (Int.toNat v5) (ByteArray.empty, ByteArray.empty, ByteArray.empty, ())))) (Int.toNat v5) (Prod.fst (List.getD (List.set x0 (Int.toNat v5) (g16_0 x1, Prod.snd (List.getD x0 (Int.toNat v5) (ByteArray.empty, ByteArray.empty, ByteArray.empty, ())))) (Int.toNat v5) (ByteArray.empty, ByteArray.empty, ByteArray.empty, ())), g16_0 (x1 + 1), Prod.snd (Prod.snd (List.getD (List.set x0 (Int.toNat v5) (g16_0 x1, Prod.snd (List.getD x0 (Int.toNat v5) (ByteArray.empty, ByteArray.empty, ByteArray.empty, ())))) (Int.toNat v5) (ByteArray.empty, ByteArray.empty, ByteArray.empty, ()))))) (Int.toNat v5) (ByteArray.empty, ByteArray.empty, ByteArray.empty, ())))))) ds us)))))))) else (ds = [Dyn.mk (Ty.int IntKind.i64) x1] ∧ us = [Option.some (Lst.mk (Ty.cons Ty.str (Ty.cons Ty.str (Ty.cons Ty.str Ty.unit))) x0)]))
end
theorem p7_0 (x0 : List (ByteArray × ByteArray × ByteArray × Unit)) (x1 : Int) : Am.runN tab ext7 false 37 [] 2000 [0] [] [0, 1, 5] [0] [] [.code b7] (entE 0 0 sig7 (x0, x1, ())) (entL sig7 (x0, x1, ())) = some (cutAt b7 2, E7_2 (0) (x1) (x0), L7_2 (0) (x1) (x0), []) := by kernel_rfl
theorem p7_1 (v5 : Int) (x1 : Int) (x0 : List (ByteArray × ByteArray × ByteArray × Unit)) : Am.runN tab ext7 false 37 [] 2000 [0] [] [0, 1, 5] [0] [true] (cutAt b7 2) (E7_2 v5 x1 x0) (L7_2 v5 x1 x0) = some (cutAt b7 2, E7_2 (v5 + 1) (x1 + 1 + 1 + 1) (List.set (List.set (List.set x0 (Int.toNat v5) (g16_0 x1, Prod.snd (List.getD x0 (Int.toNat v5) (ByteArray.empty, ByteArray.empty, ByteArray.empty, ())))) (Int.toNat v5) (Prod.fst (List.getD (List.set x0 (Int.toNat v5) (g16_0 x1, Prod.snd (List.getD x0 (Int.toNat v5) (ByteArray.empty, ByteArray.empty, ByteArray.empty, ())))) (Int.toNat v5) (ByteArray.empty, ByteArray.empty, ByteArray.empty, ())), g16_0 (x1 + 1), Prod.snd (Prod.snd (List.getD (List.set x0 (Int.toNat v5) (g16_0 x1, Prod.snd (List.getD x0 (Int.toNat v5) (ByteArray.empty, ByteArray.empty, ByteArray.empty, ())))) (Int.toNat v5) (ByteArray.empty, ByteArray.empty, ByteArray.empty, ()))))) (Int.toNat v5) (Prod.fst (List.getD (List.set (List.set x0 (Int.toNat v5) (g16_0 x1, Prod.snd (List.getD x0 (Int.toNat v5) (ByteArray.empty, ByteArray.empty, ByteArray.empty, ())))) (Int.toNat v5) (Prod.fst (List.getD (List.set x0 (Int.toNat v5) (g16_0 x1, Prod.snd (List.getD x0 (Int.toNat v5) (ByteArray.empty, ByteArray.empty, ByteArray.empty, ())))) (Int.toNat v5) (ByteArray.empty, ByteArray.empty, ByteArray.empty, ())), g16_0 (x1 + 1), Prod.snd (Prod.snd (List.getD (List.set x0 (Int.toNat v5) (g16_0 x1, Prod.snd (List.getD x0 (Int.toNat v5) (ByteArray.empty, ByteArray.empty, ByteArray.empty, ())))) (Int.toNat v5) (ByteArray.empty, ByteArray.empty, ByteArray.empty, ()))))) (Int.toNat v5) (ByteArray.empty, ByteArray.empty, ByteArray.empty, ())), Prod.fst (Prod.snd (List.getD (List.set (List.set x0 (Int.toNat v5) (g16_0 x1, Prod.snd (List.getD x0 (Int.toNat v5) (ByteArray.empty, ByteArray.empty, ByteArray.empty, ())))) (Int.toNat v5) (Prod.fst (List.getD (List.set x0 (Int.toNat v5) (g16_0 x1, Prod.snd (List.getD x0 (Int.toNat v5) (ByteArray.empty, ByteArray.empty, ByteArray.empty, ())))) (Int.toNat v5) (ByteArray.empty, ByteArray.empty, ByteArray.empty, ())), g16_0 (x1 + 1), Prod.snd (Prod.snd (List.getD (List.set x0 (Int.toNat v5) (g16_0 x1, Prod.snd (List.getD x0 (Int.toNat v5) (ByteArray.empty, ByteArray.empty, ByteArray.empty, ())))) (Int.toNat v5) (ByteArray.empty, ByteArray.empty, ByteArray.empty, ()))))) (Int.toNat v5) (ByteArray.empty, ByteArray.empty, ByteArray.empty, ()))), g16_0 (x1 + 1 + 1), Prod.snd (Prod.snd (Prod.snd (List.getD (List.set (List.set x0 (Int.toNat v5) (g16_0 x1, Prod.snd (List.getD x0 (Int.toNat v5) (ByteArray.empty, ByteArray.empty, ByteArray.empty, ())))) (Int.toNat v5) (Prod.fst (List.getD (List.set x0 (Int.toNat v5) (g16_0 x1, Prod.snd (List.getD x0 (Int.toNat v5) (ByteArray.empty, ByteArray.empty, ByteArray.empty, ())))) (Int.toNat v5) (ByteArray.empty, ByteArray.empty, ByteArray.empty, ())), g16_0 (x1 + 1), Prod.snd (Prod.snd (List.getD (List.set x0 (Int.toNat v5) (g16_0 x1, Prod.snd (List.getD x0 (Int.toNat v5) (ByteArray.empty, ByteArray.empty, ByteArray.empty, ())))) (Int.toNat v5) (ByteArray.empty, ByteArray.empty, ByteArray.empty, ()))))) (Int.toNat v5) (ByteArray.empty, ByteArray.empty, ByteArray.empty, ())))))), L7_2 (v5 + 1) (x1 + 1 + 1 + 1) (List.set (List.set (List.set x0 (Int.toNat v5) (g16_0 x1, Prod.snd (List.getD x0 (Int.toNat v5) (ByteArray.empty, ByteArray.empty, ByteArray.empty, ())))) (Int.toNat v5) (Prod.fst (List.getD (List.set x0 (Int.toNat v5) (g16_0 x1, Prod.snd (List.getD x0 (Int.toNat v5) (ByteArray.empty, ByteArray.empty, ByteArray.empty, ())))) (Int.toNat v5) (ByteArray.empty, ByteArray.empty, ByteArray.empty, ())), g16_0 (x1 + 1), Prod.snd (Prod.snd (List.getD (List.set x0 (Int.toNat v5) (g16_0 x1, Prod.snd (List.getD x0 (Int.toNat v5) (ByteArray.empty, ByteArray.empty, ByteArray.empty, ())))) (Int.toNat v5) (ByteArray.empty, ByteArray.empty, ByteArray.empty, ()))))) (Int.toNat v5) (Prod.fst (List.getD (List.set (List.set x0 (Int.toNat v5) (g16_0 x1, Prod.snd (List.getD x0 (Int.toNat v5) (ByteArray.empty, ByteArray.empty, ByteArray.empty, ())))) (Int.toNat v5) (Prod.fst (List.getD (List.set x0 (Int.toNat v5) (g16_0 x1, Prod.snd (List.getD x0 (Int.toNat v5) (ByteArray.empty, ByteArray.empty, ByteArray.empty, ())))) (Int.toNat v5) (ByteArray.empty, ByteArray.empty, ByteArray.empty, ())), g16_0 (x1 + 1), Prod.snd (Prod.snd (List.getD (List.set x0 (Int.toNat v5) (g16_0 x1, Prod.snd (List.getD x0 (Int.toNat v5) (ByteArray.empty, ByteArray.empty, ByteArray.empty, ())))) (Int.toNat v5) (ByteArray.empty, ByteArray.empty, ByteArray.empty, ()))))) (Int.toNat v5) (ByteArray.empty, ByteArray.empty, ByteArray.empty, ())), Prod.fst (Prod.snd (List.getD (List.set (List.set x0 (Int.toNat v5) (g16_0 x1, Prod.snd (List.getD x0 (Int.toNat v5) (ByteArray.empty, ByteArray.empty, ByteArray.empty, ())))) (Int.toNat v5) (Prod.fst (List.getD (List.set x0 (Int.toNat v5) (g16_0 x1, Prod.snd (List.getD x0 (Int.toNat v5) (ByteArray.empty, ByteArray.empty, ByteArray.empty, ())))) (Int.toNat v5) (ByteArray.empty, ByteArray.empty, ByteArray.empty, ())), g16_0 (x1 + 1), Prod.snd (Prod.snd (List.getD (List.set x0 (Int.toNat v5) (g16_0 x1, Prod.snd (List.getD x0 (Int.toNat v5) (ByteArray.empty, ByteArray.empty, ByteArray.empty, ())))) (Int.toNat v5) (ByteArray.empty, ByteArray.empty, ByteArray.empty, ()))))) (Int.toNat v5) (ByteArray.empty, ByteArray.empty, ByteArray.empty, ()))), g16_0 (x1 + 1 + 1), Prod.snd (Prod.snd (Prod.snd (List.getD (List.set (List.set x0 (Int.toNat v5) (g16_0 x1, Prod.snd (List.getD x0 (Int.toNat v5) (ByteArray.empty, ByteArray.empty, ByteArray.empty, ())))) (Int.toNat v5) (Prod.fst (List.getD (List.set x0 (Int.toNat v5) (g16_0 x1, Prod.snd (List.getD x0 (Int.toNat v5) (ByteArray.empty, ByteArray.empty, ByteArray.empty, ())))) (Int.toNat v5) (ByteArray.empty, ByteArray.empty, ByteArray.empty, ())), g16_0 (x1 + 1), Prod.snd (Prod.snd (List.getD (List.set x0 (Int.toNat v5) (g16_0 x1, Prod.snd (List.getD x0 (Int.toNat v5) (ByteArray.empty, ByteArray.empty, ByteArray.empty, ())))) (Int.toNat v5) (ByteArray.empty, ByteArray.empty, ByteArray.empty, ()))))) (Int.toNat v5) (ByteArray.empty, ByteArray.empty, ByteArray.empty, ())))))), [Decidable.decide (v5 < (↑(List.length x0) : Int)) = Bool.true, True, 0 ≤ v5, v5 < (↑(List.length x0) : Int), InR IntKind.i64 (x1 + 1), True, 0 ≤ v5, v5 < (↑(List.length (List.set x0 (Int.toNat v5) (g16_0 x1, Prod.snd (List.getD x0 (Int.toNat v5) (ByteArray.empty, ByteArray.empty, ByteArray.empty, ()))))) : Int), InR IntKind.i64 (x1 + 1 + 1), True, 0 ≤ v5, v5 < (↑(List.length (List.set (List.set x0 (Int.toNat v5) (g16_0 x1, Prod.snd (List.getD x0 (Int.toNat v5) (ByteArray.empty, ByteArray.empty, ByteArray.empty, ())))) (Int.toNat v5) (Prod.fst (List.getD (List.set x0 (Int.toNat v5) (g16_0 x1, Prod.snd (List.getD x0 (Int.toNat v5) (ByteArray.empty, ByteArray.empty, ByteArray.empty, ())))) (Int.toNat v5) (ByteArray.empty, ByteArray.empty, ByteArray.empty, ())), g16_0 (x1 + 1), Prod.snd (Prod.snd (List.getD (List.set x0 (Int.toNat v5) (g16_0 x1, Prod.snd (List.getD x0 (Int.toNat v5) (ByteArray.empty, ByteArray.empty, ByteArray.empty, ())))) (Int.toNat v5) (ByteArray.empty, ByteArray.empty, ByteArray.empty, ())))))) : Int), InR IntKind.i64 (x1 + 1 + 1 + 1), InR IntKind.i64 (v5 + 1)]) := by kernel_rfl
theorem p7_2 (v5 : Int) (x1 : Int) (x0 : List (ByteArray × ByteArray × ByteArray × Unit)) : runF tab ext7 false 37 [] 2000 [0] tys7 Tryd.f7.results [false] (cutAt b7 2) (E7_2 v5 x1 x0) (L7_2 v5 x1 x0) = some ([Dyn.mk (Ty.int IntKind.i64) x1], [Option.some (Lst.mk (Ty.cons Ty.str (Ty.cons Ty.str (Ty.cons Ty.str Ty.unit))) x0)], [Decidable.decide (v5 < (↑(List.length x0) : Int)) = Bool.false]) := by kernel_rfl
theorem snd7 : ∀ n, (∀ (x0 : List (ByteArray × ByteArray × ByteArray × Unit)) (x1 : Int) ds us, R7 n x0 x1 ds us → ∀ w0 O q, AtV Tryd.prog 7 (PostR ds us [0] q w0 O) 37 w0 O q [0] [.code b7] (entE 0 0 sig7 (x0, x1, ())) (entL sig7 (x0, x1, ()))) ∧ (∀ (v5 : Int) (x1 : Int) (x0 : List (ByteArray × ByteArray × ByteArray × Unit)) ds us, R7_2 n v5 x1 x0 ds us → ∀ w0 O q, AtV Tryd.prog 7 (PostR ds us [0] q w0 O) 37 w0 O q [0] (cutAt b7 2) (E7_2 v5 x1 x0) (L7_2 v5 x1 x0)) := by
  intro n
  induction n with
  | zero => exact ⟨fun _ _ _ _ h => by simp only [R7] at h, fun _ _ _ _ _ h => by simp only [R7_2] at h⟩
  | succ n ih =>
  obtain ⟨ih, ih2⟩ := ih
  refine ⟨?_, ?_⟩
  · intro x0 x1 ds us h w0 O q
    rw [R7] at h
    exact AtV.runN tabOk ext7Ok mixed (p7_0 x0 x1) trivial (ih2 _ _ _ _ _ h w0 O q)

  · intro v5 x1 x0 ds us h w0 O q
    rw [R7_2] at h
    by_cases b0 : (Decidable.decide (v5 < (↑(List.length x0) : Int))) = true
    · rw [if_pos b0] at h
      obtain ⟨s0, s1, h⟩ := h
      obtain ⟨s2, h⟩ := h
      obtain ⟨s3, s4, h⟩ := h
      obtain ⟨s5, h⟩ := h
      obtain ⟨s6, s7, h⟩ := h
      obtain ⟨s8, h⟩ := h
      obtain ⟨s9, h⟩ := h
      exact AtV.runN tabOk ext7Ok mixed (p7_1 v5 x1 x0) ⟨b0, trivial, s0, s1, s2, trivial, s3, s4, s5, trivial, s6, s7, s8, s9, trivial⟩ (ih2 _ _ _ _ _ h w0 O q)
    · rw [if_neg b0] at h
      replace b0 := Bool.eq_false_iff.2 b0
      obtain ⟨h, h'⟩ := h; subst h; subst h'
      exact AtV.fin Tryd.func7 tabOk ext7Ok mixed (p7_2 v5 x1 x0) ⟨b0, trivial⟩



def M7 (x1 : Int) (n : Nat) : List (ByteArray × ByteArray × ByteArray × Unit) := (List.range n).map fun (j : Nat) => (g16_0 (x1 + 3 * (j : Int)), g16_0 (x1 + 3 * (j : Int) + 1), g16_0 (x1 + 3 * (j : Int) + 1 + 1), ())

theorem M7_len (x1 : Int) (n : Nat) : (M7 x1 n).length = n := by simp [M7]

theorem M7_succ (x1 : Int) (n : Nat) : M7 x1 (n + 1) = M7 x1 n ++ [(g16_0 (x1 + 3 * (n : Int)), g16_0 (x1 + 3 * (n : Int) + 1), g16_0 (x1 + 3 * (n : Int) + 1 + 1), ())] := by
  simp [M7, List.range_succ]

theorem run7 (x0 : List (ByteArray × ByteArray × ByteArray × Unit)) (x1 : Int) (hm : x0.length ≤ maxLen) (h0 : 0 ≤ x1) (h1 : x1 + 3 * x0.length ≤ 9223372036854775807) : ∀ (k i : Nat), i + k = x0.length →
    R7_2 (k + 1) (i : Int) (x1 + 3 * (i : Int)) (M7 x1 i ++ x0.drop i) [⟨.int .i64, x1 + 3 * (x0.length : Int)⟩] [some ⟨(.cons .str (.cons .str (.cons .str .unit))), M7 x1 x0.length⟩] := by
  intro k
  induction k with
  | zero =>
    intro i hi
    have hl : (M7 x1 i ++ x0.drop i).length = x0.length := by simp [M7_len]; omega
    rw [R7_2, if_neg (by rw [hl]; simp; omega), drop_end x0 i (by omega), List.append_nil]
    have : i = x0.length := by omega
    subst this
    exact ⟨rfl, rfl⟩
  | succ k ih =>
    intro i hi
    have hl : (M7 x1 i ++ x0.drop i).length = x0.length := by simp [M7_len]; omega
    have hA := M7_len x1 i
    rw [R7_2, if_pos (by rw [hl]; simp; omega)]
    rw [drop_get x0 i (ByteArray.empty, ByteArray.empty, ByteArray.empty, ()) (by omega)] at hl ⊢
    simp only [Int.toNat_natCast, set_mid _ _ _ _ i hA, get_mid _ _ _ _ i hA]
    have hl' : ∀ y : (ByteArray × ByteArray × ByteArray × Unit), ((M7 x1 i ++ y :: x0.drop (i + 1)).length : Int) = x0.length := fun y => by rw [← hl]; simp
    simp only [hl']
    refine ⟨by omega, by omega, by rw [i64_iff]; omega, by omega, by omega, by rw [i64_iff]; omega, by omega, by omega, by rw [i64_iff]; omega, inR_up hm (by omega), ?_⟩
    have hx : x1 + 3 * (i : Int) + 1 + 1 + 1 = x1 + 3 * ((i + 1 : Nat) : Int) := by omega
    have := ih (i + 1) (by omega)
    rw [M7_succ, List.append_assoc] at this
    rw [hx]
    simpa using this

def P7 (x0 : List (ByteArray × ByteArray × ByteArray × Unit)) (x1 : Int) : Prop := 0 ≤ x1 ∧ x1 + 3 * x0.length ≤ 9223372036854775807
def g7_0 (x0 : List (ByteArray × ByteArray × ByteArray × Unit)) (x1 : Int) : Int := x1 + 3 * (x0.length : Int)
def u7_0 (x0 : List (ByteArray × ByteArray × ByteArray × Unit)) (x1 : Int) : List (ByteArray × ByteArray × ByteArray × Unit) := M7 x1 x0.length

theorem top7 (x0 : List (ByteArray × ByteArray × ByteArray × Unit)) (x1 : Int) (hm : x0.length ≤ maxLen) (h : P7 x0 x1) : R7 (x0.length + 1 + 1) x0 x1 [⟨.int .i64, g7_0 x0 x1⟩] [some ⟨(.cons .str (.cons .str (.cons .str .unit))), u7_0 x0 x1⟩] := by
  rw [R7]
  have := run7 x0 x1 hm h.1 h.2 x0.length 0 (by omega)
  simpa [M7, g7_0, u7_0] using this

def S7 : Am.Spec := { sig := sig7, pre := fun ⟨x0, x1, _⟩ => P7 x0 x1, upd := fun ⟨x0, x1, _⟩ => [some ⟨(.cons .str (.cons .str (.cons .str .unit))), u7_0 x0 x1⟩], res := fun ⟨x0, x1, _⟩ => [⟨.int .i64, g7_0 x0 x1⟩] }
theorem con7 : Contract Tryd.prog 7 S7 := contract_of Tryd.func7 hb7 (Nat.le_of_ble_eq_true (by kernel_rfl)) (fun ⟨x0, x1, _⟩ h hwf w0 O q =>
  (snd7 _).1 x0 x1 _ _ (top7 x0 x1 hwf.1.1 h) w0 O q)

end Go.Proofs.YticibijneahllaaDoor

/- Function 8 (laws.heldBlockS): its runs between cut points. Written by a program of this repo (gen). -/
set_option linter.unusedVariables false
set_option linter.unusedSimpArgs false
set_option maxRecDepth 100000
namespace Go.Proofs.YticibijneahllaaDoor
open Go Go.Am Go.Proofs
def ext8 : Ext := [(16, S16)]
theorem call8_16 : Callable Tryd.prog 16 := ⟨Tryd.f16, Tryd.func16, by kernel_rfl, by kernel_rfl⟩
theorem ext8Ok : ExtOk Tryd.prog ext8 := ⟨⟨call8_16, con16⟩, trivial⟩
/-! Function 8. -/
noncomputable def b8 : Code := bodyOf Tryd.f8
theorem hb8 : Tryd.f8.body = some b8 := by kernel_rfl
def sig8 : List AT := [AT.v (Ty.sl (Ty.cons Ty.str (Ty.cons Ty.str (Ty.cons Ty.str Ty.unit)))), AT.v (Ty.int IntKind.i64)]
def tys8 : List Ty := [Ty.int IntKind.i64]
def E8_2 (v5 : Int) (x0 : List (ByteArray × ByteArray × ByteArray × Unit)) (x1 : Int) : Env := [(0, PV.a (Atom.sl (Ty.cons Ty.str (Ty.cons Ty.str (Ty.cons Ty.str Ty.unit))) x0)), (1, PV.a (Atom.val (Value.int IntKind.i64 x1))), (5, PV.a (Atom.val (Value.int IntKind.i64 v5)))]
def L8_2 (v5 : Int) (x0 : List (ByteArray × ByteArray × ByteArray × Unit)) (x1 : Int) : Heap := []
mutual
def R8 : Nat → List (ByteArray × ByteArray × ByteArray × Unit) → Int → List Dyn → Prop
  | 0, _, _, _ => False
  | n + 1, x0, x1, ds => (R8_2 n (0) (x0) (x1) ds)
def R8_2 : Nat → Int → List (ByteArray × ByteArray × ByteArray × Unit) → Int → List Dyn → Prop
  | 0, _, _, _, _ => False
  | n + 1, v5, x0, x1, ds => (if (Decidable.decide (v5 < (↑(List.length x0) : Int))) = true then ((0 ≤ v5) ∧ (v5 < (↑(List.length x0) : Int)) ∧ (if (!ByteArray.toList (Prod.fst (List.getD x0 (Int.toNat v5) (ByteArray.empty, ByteArray.empty, ByteArray.empty, ()))) == ByteArray.toList (g16_0 x1)) = true then (ds = [Dyn.mk (Ty.int IntKind.i64) (-1)]) else ((InR IntKind.i64 (x1 + 1)) ∧ ((0 ≤ v5) ∧ (v5 < (↑(List.length x0) : Int)) ∧ (if (!ByteArray.toList (Prod.fst (Prod.snd (List.getD x0 (Int.toNat v5) (ByteArray.empty, ByteArray.empty, ByteArray.empty, ())))) == ByteArray.toList (g16_0 (x1 + 1))) = true then (ds = [Dyn.mk (Ty.int IntKind.i64) (-1)]) else ((InR IntKind.i64 (x1 + 1 + 1)) ∧ ((0 ≤ v5) ∧ (v5 < (↑(List.length x0) : Int)) ∧ (if (!ByteArray.toList (Prod.fst (Prod.snd (Prod.snd (List.getD x0 (Int.toNat v5) (ByteArray.empty, ByteArray.empty, ByteArray.empty, ()))))) == ByteArray.toList (g16_0 (x1 + 1 + 1))) = true then (ds = [Dyn.mk (Ty.int IntKind.i64) (-1)]) else ((InR IntKind.i64 (x1 + 1 + 1 + 1)) ∧ ((InR IntKind.i64 (v5 + 1)) ∧ (R8_2 n (v5 + 1) (x0) (x1 + 1 + 1 + 1) ds))))))))))) else (ds = [Dyn.mk (Ty.int IntKind.i64) x1]))
end
theorem p8_0 (x0 : List (ByteArray × ByteArray × ByteArray × Unit)) (x1 : Int) : Am.runN tab ext8 false 43 [] 2000 [] [] [0, 1, 5] [] [] [.code b8] (entE 0 0 sig8 (x0, x1, ())) (entL sig8 (x0, x1, ())) = some (cutAt b8 2, E8_2 (0) (x0) (x1), L8_2 (0) (x0) (x1), []) := by kernel_rfl
theorem p8_1 (v5 : Int) (x0 : List (ByteArray × ByteArray × ByteArray × Unit)) (x1 : Int) : runF tab ext8 false 43 [] 2000 [] tys8 Tryd.f8.results [true, true] (cutAt b8 2) (E8_2 v5 x0 x1) (L8_2 v5 x0 x1) = some ([Dyn.mk (Ty.int IntKind.i64) (-1)], [], [Decidable.decide (v5 < (↑(List.length x0) : Int)) = Bool.true, 0 ≤ v5, v5 < (↑(List.length x0) : Int), True, (!ByteArray.toList (Prod.fst (List.getD x0 (Int.toNat v5) (ByteArray.empty, ByteArray.empty, ByteArray.empty, ()))) == ByteArray.toList (g16_0 x1)) = Bool.true]) := by kernel_rfl
theorem p8_2 (v5 : Int) (x0 : List (ByteArray × ByteArray × ByteArray × Unit)) (x1 : Int) : runF tab ext8 false 43 [] 2000 [] tys8 Tryd.f8.results [true, false, true] (cutAt b8 2) (E8_2 v5 x0 x1) (L8_2 v5 x0 x1) = some ([Dyn.mk (Ty.int IntKind.i64) (-1)], [], [Decidable.decide (v5 < (↑(List.length x0) : Int)) = Bool.true, 0 ≤ v5, v5 < (↑(List.length x0) : Int), True, (!ByteArray.toList (Prod.fst (List.getD x0 (Int.toNat v5) (ByteArray.empty, ByteArray.empty, ByteArray.empty, ()))) == ByteArray.toList (g16_0 x1)) = Bool.false, InR IntKind.i64 (x1 + 1), 0 ≤ v5, v5 < (↑(List.length x0) : Int), True, (!ByteArray.toList (Prod.fst (Prod.snd (List.getD x0 (Int.toNat v5) (ByteArray.empty, ByteArray.empty, ByteArray.empty, ())))) == ByteArray.toList (g16_0 (x1 + 1))) = Bool.true]) := by kernel_rfl
theorem p8_3 (v5 : Int) (x0 : List (ByteArray × ByteArray × ByteArray × Unit)) (x1 : Int) : runF tab ext8 false 43 [] 2000 [] tys8 Tryd.f8.results [true, false, false, true] (cutAt b8 2) (E8_2 v5 x0 x1) (L8_2 v5 x0 x1) = some ([Dyn.mk (Ty.int IntKind.i64) (-1)], [], [Decidable.decide (v5 < (↑(List.length x0) : Int)) = Bool.true, 0 ≤ v5, v5 < (↑(List.length x0) : Int), True, (!ByteArray.toList (Prod.fst (List.getD x0 (Int.toNat v5) (ByteArray.empty, ByteArray.empty, ByteArray.empty, ()))) == ByteArray.toList (g16_0 x1)) = Bool.false, InR IntKind.i64 (x1 + 1), 0 ≤ v5, v5 < (↑(List.length x0) : Int), True, (!ByteArray.toList (Prod.fst (Prod.snd (List.getD x0 (Int.toNat v5) (ByteArray.empty, ByteArray.empty, ByteArray.empty, ())))) == ByteArray.toList (g16_0 (x1 + 1))) = Bool.false, InR IntKind.i64 (x1 + 1 + 1), 0 ≤ v5, v5 < (↑(List.length x0) : Int), True, (!ByteArray.toList (Prod.fst (Prod.snd (Prod.snd (List.getD x0 (Int.toNat v5) (ByteArray.empty, ByteArray.empty, ByteArray.empty, ()))))) == ByteArray.toList (g16_0 (x1 + 1 + 1))) = Bool.true]) := by kernel_rfl
theorem p8_4 (v5 : Int) (x0 : List (ByteArray × ByteArray × ByteArray × Unit)) (x1 : Int) : Am.runN tab ext8 false 43 [] 2000 [] [] [0, 1, 5] [] [true, false, false, false] (cutAt b8 2) (E8_2 v5 x0 x1) (L8_2 v5 x0 x1) = some (cutAt b8 2, E8_2 (v5 + 1) (x0) (x1 + 1 + 1 + 1), L8_2 (v5 + 1) (x0) (x1 + 1 + 1 + 1), [Decidable.decide (v5 < (↑(List.length x0) : Int)) = Bool.true, 0 ≤ v5, v5 < (↑(List.length x0) : Int), True, (!ByteArray.toList (Prod.fst (List.getD x0 (Int.toNat v5) (ByteArray.empty, ByteArray.empty, ByteArray.empty, ()))) == ByteArray.toList (g16_0 x1)) = Bool.false, InR IntKind.i64 (x1 + 1), 0 ≤ v5, v5 < (↑(List.length x0) : Int), True, (!ByteArray.toList (Prod.fst (Prod.snd (List.getD x0 (Int.toNat v5) (ByteArray.empty, ByteArray.empty, ByteArray.empty, ())))) == ByteArray.toList (g16_0 (x1 + 1))) = Bool.false, InR IntKind.i64 (x1 + 1 + 1), 0 ≤ v5, v5 < (↑(List.length x0) : Int), True, (!ByteArray.toList (Prod.fst (Prod.snd (Prod.snd (List.getD x0 (Int.toNat v5) (ByteArray.empty, ByteArray.empty, ByteArray.empty, ()))))) == ByteArray.toList (g16_0 (x1 + 1 + 1))) = Bool.false, InR IntKind.i64 (x1 + 1 + 1 + 1), InR IntKind.i64 (v5 + 1)]) := by kernel_rfl
theorem p8_5 (v5 : Int) (x0 : List (ByteArray × ByteArray × ByteArray × Unit)) (x1 : Int) : runF tab ext8 false 43 [] 2000 [] tys8 Tryd.f8.results [false] (cutAt b8 2) (E8_2 v5 x0 x1) (L8_2 v5 x0 x1) = some ([Dyn.mk (Ty.int IntKind.i64) x1], [], [Decidable.decide (v5 < (↑(List.length x0) : Int)) = Bool.false]) := by kernel_rfl
theorem snd8 : ∀ n, (∀ (x0 : List (ByteArray × ByteArray × ByteArray × Unit)) (x1 : Int) ds, R8 n x0 x1 ds → ∀ w0 O q, AtV Tryd.prog 8 (PostR ds [] [] q w0 O) 43 w0 O q [] [.code b8] (entE 0 0 sig8 (x0, x1, ())) (entL sig8 (x0, x1, ()))) ∧ (∀ (v5 : Int) (x0 : List (ByteArray × ByteArray × ByteArray × Unit)) (x1 : Int) ds, R8_2 n v5 x0 x1 ds → ∀ w0 O q, AtV Tryd.prog 8 (PostR ds [] [] q w0 O) 43 w0 O q [] (cutAt b8 2) (E8_2 v5 x0 x1) (L8_2 v5 x0 x1)) := by
  intro n
  induction n with
  | zero => exact ⟨fun _ _ _ h => by simp only [R8] at h, fun _ _ _ _ h => by simp only [R8_2] at h⟩
  | succ n ih =>
  obtain ⟨ih, ih2⟩ := ih
  refine ⟨?_, ?_⟩
  · intro x0 x1 ds h w0 O q
    rw [R8] at h
    exact AtV.runN tabOk ext8Ok mixed (p8_0 x0 x1) trivial (ih2 _ _ _ _ h w0 O q)

  · intro v5 x0 x1 ds h w0 O q
    rw [R8_2] at h
    by_cases b0 : (Decidable.decide (v5 < (↑(List.length x0) : Int))) = true
    · rw [if_pos b0] at h
      obtain ⟨s0, s1, h⟩ := h
      by_cases b1 : (!ByteArray.toList (Prod.fst (List.getD x0 (Int.toNat v5) (ByteArray.empty, ByteArray.empty, ByteArray.empty, ()))) == ByteArray.toList (g16_0 x1)) = true
      · rw [if_pos b1] at h
        subst h
        exact AtV.fin Tryd.func8 tabOk ext8Ok mixed (p8_1 v5 x0 x1) ⟨b0, s0, s1, trivial, b1, trivial⟩
      · rw [if_neg b1] at h
        replace b1 := Bool.eq_false_iff.2 b1
        obtain ⟨s2, h⟩ := h
        obtain ⟨s3, s4, h⟩ := h
        by_cases b2 : (!ByteArray.toList (Prod.fst (Prod.snd (List.getD x0 (Int.toNat v5) (ByteArray.empty, ByteArray.empty, ByteArray.empty, ())))) == ByteArray.toList (g16_0 (x1 + 1))) = true
        · rw [if_pos b2] at h
          subst h
          exact AtV.fin Tryd.func8 tabOk ext8Ok mixed (p8_2 v5 x0 x1) ⟨b0, s0, s1, trivial, b1, s2, s3, s4, trivial, b2, trivial⟩
        · rw [if_neg b2] at h
          replace b2 := Bool.eq_false_iff.2 b2
          obtain ⟨s5, h⟩ := h
          obtain ⟨s6, s7, h⟩ := h
          by_cases b3 : (!ByteArray.toList (Prod.fst (Prod.snd (Prod.snd (List.getD x0 (Int.toNat v5) (ByteArray.empty, ByteArray.empty, ByteArray.empty, ()))))) == ByteArray.toList (g16_0 (x1 + 1 + 1))) = true
          · rw [if_pos b3] at h
            subst h
            exact AtV.fin Tryd.func8 tabOk ext8Ok mixed (p8_3 v5 x0 x1) ⟨b0, s0, s1, trivial, b1, s2, s3, s4, trivial, b2, s5, s6, s7, trivial, b3, trivial⟩
          · rw [if_neg b3] at h
            replace b3 := Bool.eq_false_iff.2 b3
            obtain ⟨s8, h⟩ := h
            obtain ⟨s9, h⟩ := h
            exact AtV.runN tabOk ext8Ok mixed (p8_4 v5 x0 x1) ⟨b0, s0, s1, trivial, b1, s2, s3, s4, trivial, b2, s5, s6, s7, trivial, b3, s8, s9, trivial⟩ (ih2 _ _ _ _ h w0 O q)
    · rw [if_neg b0] at h
      replace b0 := Bool.eq_false_iff.2 b0
      subst h
      exact AtV.fin Tryd.func8 tabOk ext8Ok mixed (p8_5 v5 x0 x1) ⟨b0, trivial⟩



theorem run8 (x0 : List (ByteArray × ByteArray × ByteArray × Unit)) (x1 : Int) (hm : x0.length ≤ maxLen) (h0 : 0 ≤ x1) (h1 : x1 + 3 * x0.length ≤ 9223372036854775807) (he : ∀ i : Nat, i < x0.length → x0.getD i (ByteArray.empty, ByteArray.empty, ByteArray.empty, ()) = (g16_0 (x1 + 3 * (i : Int)), g16_0 (x1 + 3 * (i : Int) + 1), g16_0 (x1 + 3 * (i : Int) + 1 + 1), ())) : ∀ (k i : Nat), i + k = x0.length →
    R8_2 (k + 1) (i : Int) x0 (x1 + 3 * (i : Int)) [⟨.int .i64, x1 + 3 * (x0.length : Int)⟩] := by
  intro k
  induction k with
  | zero =>
    intro i hi
    rw [R8_2, if_neg (by simp; omega)]
    have : i = x0.length := by omega
    subst this
    rfl
  | succ k ih =>
    intro i hi
    rw [R8_2, if_pos (by simp; omega)]
    simp only [Int.toNat_natCast, he i (by omega)]
    have hb : ∀ y : ByteArray, (!(ByteArray.toList y == ByteArray.toList y)) = true → False := fun y h => by rw [(bytes_eq y y).2 rfl] at h; cases h
    refine ⟨by omega, by omega, ?_⟩
    rw [if_neg (hb _)]
    refine ⟨by rw [i64_iff]; omega, by omega, by omega, ?_⟩
    rw [if_neg (hb _)]
    refine ⟨by rw [i64_iff]; omega, by omega, by omega, ?_⟩
    rw [if_neg (hb _)]
    refine ⟨by rw [i64_iff]; omega, inR_up hm (by omega), ?_⟩
    have hx : x1 + 3 * (i : Int) + 1 + 1 + 1 = x1 + 3 * ((i + 1 : Nat) : Int) := by omega
    rw [hx]
    exact ih (i + 1) (by omega)

def P8 (x0 : List (ByteArray × ByteArray × ByteArray × Unit)) (x1 : Int) : Prop := (0 ≤ x1 ∧ x1 + 3 * x0.length ≤ 9223372036854775807) ∧ ∀ i : Nat, i < x0.length → x0.getD i (ByteArray.empty, ByteArray.empty, ByteArray.empty, ()) = (g16_0 (x1 + 3 * (i : Int)), g16_0 (x1 + 3 * (i : Int) + 1), g16_0 (x1 + 3 * (i : Int) + 1 + 1), ())
def g8_0 (x0 : List (ByteArray × ByteArray × ByteArray × Unit)) (x1 : Int) : Int := x1 + 3 * (x0.length : Int)

theorem top8 (x0 : List (ByteArray × ByteArray × ByteArray × Unit)) (x1 : Int) (hm : x0.length ≤ maxLen) (h : P8 x0 x1) : R8 (x0.length + 1 + 1) x0 x1 [⟨.int .i64, g8_0 x0 x1⟩] := by
  rw [R8]
  have := run8 x0 x1 hm h.1.1 h.1.2 h.2 x0.length 0 (by omega)
  simpa [g8_0] using this

def S8 : Am.Spec := { sig := sig8, pre := fun ⟨x0, x1, _⟩ => P8 x0 x1, res := fun ⟨x0, x1, _⟩ => [⟨.int .i64, g8_0 x0 x1⟩] }
theorem con8 : Contract Tryd.prog 8 S8 := contract_of Tryd.func8 hb8 (Nat.le_of_ble_eq_true (by kernel_rfl)) (fun ⟨x0, x1, _⟩ h hwf w0 O q =>
  (snd8 _).1 x0 x1 _ (top8 x0 x1 hwf.1.1 h) w0 O q)

end Go.Proofs.YticibijneahllaaDoor

/- Function 3 (laws.FnExactSalvageBlocks): its runs between cut points. Written by a program of this repo (gen). -/
set_option linter.unusedVariables false
set_option linter.unusedSimpArgs false
set_option maxRecDepth 100000
namespace Go.Proofs.YticibijneahllaaDoor
open Go Go.Am Go.Proofs
def ext3 : Ext := [(4, S4), (5, S5), (6, S6), (7, S7), (8, S8)]
theorem call3_4 : Callable Tryd.prog 4 := ⟨Tryd.f4, Tryd.func4, by kernel_rfl, by kernel_rfl⟩
theorem call3_5 : Callable Tryd.prog 5 := ⟨Tryd.f5, Tryd.func5, by kernel_rfl, by kernel_rfl⟩
theorem call3_6 : Callable Tryd.prog 6 := ⟨Tryd.f6, Tryd.func6, by kernel_rfl, by kernel_rfl⟩
theorem call3_7 : Callable Tryd.prog 7 := ⟨Tryd.f7, Tryd.func7, by kernel_rfl, by kernel_rfl⟩
theorem call3_8 : Callable Tryd.prog 8 := ⟨Tryd.f8, Tryd.func8, by kernel_rfl, by kernel_rfl⟩
theorem ext3Ok : ExtOk Tryd.prog ext3 := ⟨⟨call3_4, con4⟩, ⟨call3_5, con5⟩, ⟨call3_6, con6⟩, ⟨call3_7, con7⟩, ⟨call3_8, con8⟩, trivial⟩
/-! Function 3. -/
noncomputable def b3 : Code := bodyOf Tryd.f3
theorem hb3 : Tryd.f3.body = some b3 := by kernel_rfl
def sig3 : List AT := [AT.v (Ty.str)]
def tys3 : List Ty := [Ty.bool]
def P3 (x0 : ByteArray) : Prop := (if (Decidable.decide ((↑(ByteArray.size x0) : Int) > 1048576)) = true then True else ((P4 x0) ∧ ((P5 x0) ∧ (if (!g6_0 (g5_0 x0) (g4_0 x0)) = true then True else ((P7 (g5_0 x0) 1) ∧ (List.length (u7_0 (g5_0 x0) 1) = List.length (g5_0 x0)) ∧ ((P8 (u7_0 (g5_0 x0) 1) 1) ∧ (if (Decidable.decide (g8_0 (u7_0 (g5_0 x0) 1) 1 < 0)) = true then True else (if (g8_0 (u7_0 (g5_0 x0) 1) 1 != g7_0 (g5_0 x0) 1) = true then True else ((P5 x0) ∧ ((P8 (u7_0 (g5_0 x0) 1) 1) ∧ True))))))))))
def g3_0 (x0 : ByteArray) : Bool := (if (Decidable.decide ((↑(ByteArray.size x0) : Int) > 1048576)) = true then Bool.true else (if (!g6_0 (g5_0 x0) (g4_0 x0)) = true then Bool.false else (if (Decidable.decide (g8_0 (u7_0 (g5_0 x0) 1) 1 < 0)) = true then Bool.false else (if (g8_0 (u7_0 (g5_0 x0) 1) 1 != g7_0 (g5_0 x0) 1) = true then Bool.false else Bool.true))))
theorem p3_0 (x0 : ByteArray) : runF tab ext3 false 44 [] 2000 [] tys3 Tryd.f3.results [true] [.code b3] (entE 0 0 sig3 (x0, ())) (entL sig3 (x0, ())) = some ([Dyn.mk Ty.bool Bool.true], [], [Decidable.decide ((↑(ByteArray.size x0) : Int) > 1048576) = Bool.true]) := by kernel_rfl
theorem p3_1 (x0 : ByteArray) : runF tab ext3 false 44 [] 2000 [] tys3 Tryd.f3.results [false, true] [.code b3] (entE 0 0 sig3 (x0, ())) (entL sig3 (x0, ())) = some ([Dyn.mk Ty.bool Bool.false], [], [Decidable.decide ((↑(ByteArray.size x0) : Int) > 1048576) = Bool.false, P4 x0, P5 x0, True, (!g6_0 (g5_0 x0) (g4_0 x0)) = Bool.true]) := by kernel_rfl
theorem p3_2 (x0 : ByteArray) : runF tab ext3 false 44 [] 2000 [] tys3 Tryd.f3.results [false, false, true] [.code b3] (entE 0 0 sig3 (x0, ())) (entL sig3 (x0, ())) = some ([Dyn.mk Ty.bool Bool.false], [], [Decidable.decide ((↑(ByteArray.size x0) : Int) > 1048576) = Bool.false, P4 x0, P5 x0, True, (!g6_0 (g5_0 x0) (g4_0 x0)) = Bool.false, P7 (g5_0 x0) 1, List.length (u7_0 (g5_0 x0) 1) = List.length (g5_0 x0), P8 (u7_0 (g5_0 x0) 1) 1, Decidable.decide (g8_0 (u7_0 (g5_0 x0) 1) 1 < 0) = Bool.true]) := by kernel_rfl
theorem p3_3 (x0 : ByteArray) : runF tab ext3 false 44 [] 2000 [] tys3 Tryd.f3.results [false, false, false, true] [.code b3] (entE 0 0 sig3 (x0, ())) (entL sig3 (x0, ())) = some ([Dyn.mk Ty.bool Bool.false], [], [Decidable.decide ((↑(ByteArray.size x0) : Int) > 1048576) = Bool.false, P4 x0, P5 x0, True, (!g6_0 (g5_0 x0) (g4_0 x0)) = Bool.false, P7 (g5_0 x0) 1, List.length (u7_0 (g5_0 x0) 1) = List.length (g5_0 x0), P8 (u7_0 (g5_0 x0) 1) 1, Decidable.decide (g8_0 (u7_0 (g5_0 x0) 1) 1 < 0) = Bool.false, (g8_0 (u7_0 (g5_0 x0) 1) 1 != g7_0 (g5_0 x0) 1) = Bool.true]) := by kernel_rfl
theorem p3_4 (x0 : ByteArray) : runF tab ext3 false 44 [] 2000 [] tys3 Tryd.f3.results [false, false, false, false, false, false, false] [.code b3] (entE 0 0 sig3 (x0, ())) (entL sig3 (x0, ())) = some ([Dyn.mk Ty.bool Bool.true], [], [Decidable.decide ((↑(ByteArray.size x0) : Int) > 1048576) = Bool.false, P4 x0, P5 x0, True, (!g6_0 (g5_0 x0) (g4_0 x0)) = Bool.false, P7 (g5_0 x0) 1, List.length (u7_0 (g5_0 x0) 1) = List.length (g5_0 x0), P8 (u7_0 (g5_0 x0) 1) 1, Decidable.decide (g8_0 (u7_0 (g5_0 x0) 1) 1 < 0) = Bool.false, (g8_0 (u7_0 (g5_0 x0) 1) 1 != g7_0 (g5_0 x0) 1) = Bool.false, P5 x0, True, (!g6_0 (g5_0 x0) (g4_0 x0)) = Bool.false, P8 (u7_0 (g5_0 x0) 1) 1, Decidable.decide (g8_0 (u7_0 (g5_0 x0) 1) 1 < 0) = Bool.false, (g8_0 (u7_0 (g5_0 x0) 1) 1 != g7_0 (g5_0 x0) 1) = Bool.false]) := by kernel_rfl
theorem at3 (x0 : ByteArray) (h : P3 x0) (w0 : World) (O : List Nat) (q : Nat → Value) : AtV Tryd.prog 3 (PostR [⟨Ty.bool, g3_0 x0⟩] [] [] q w0 O) 44 w0 O q [] [.code b3] (entE 0 0 sig3 (x0, ())) (entL sig3 (x0, ())) := by
  unfold P3 at h
  unfold g3_0
  by_cases b0 : (Decidable.decide ((↑(ByteArray.size x0) : Int) > 1048576)) = true
  · try simp only [if_pos b0] at h ⊢
    exact AtV.fin Tryd.func3 tabOk ext3Ok mixed (p3_0 x0) ⟨b0, trivial⟩
  · try simp only [if_neg b0] at h ⊢
    replace b0 := Bool.eq_false_iff.2 b0
    obtain ⟨s0, h⟩ := h
    obtain ⟨s1, h⟩ := h
    by_cases b1 : (!g6_0 (g5_0 x0) (g4_0 x0)) = true
    · try simp only [if_pos b1] at h ⊢
      exact AtV.fin Tryd.func3 tabOk ext3Ok mixed (p3_1 x0) ⟨b0, s0, s1, trivial, b1, trivial⟩
    · try simp only [if_neg b1] at h ⊢
      replace b1 := Bool.eq_false_iff.2 b1
      obtain ⟨s2, s3, h⟩ := h
      obtain ⟨s4, h⟩ := h
      by_cases b2 : (Decidable.decide (g8_0 (u7_0 (g5_0 x0) 1) 1 < 0)) = true
      · try simp only [if_pos b2] at h ⊢
        exact AtV.fin Tryd.func3 tabOk ext3Ok mixed (p3_2 x0) ⟨b0, s0, s1, trivial, b1, s2, s3, s4, b2, trivial⟩
      · try simp only [if_neg b2] at h ⊢
        replace b2 := Bool.eq_false_iff.2 b2
        by_cases b3 : (g8_0 (u7_0 (g5_0 x0) 1) 1 != g7_0 (g5_0 x0) 1) = true
        · try simp only [if_pos b3] at h ⊢
          exact AtV.fin Tryd.func3 tabOk ext3Ok mixed (p3_3 x0) ⟨b0, s0, s1, trivial, b1, s2, s3, s4, b2, b3, trivial⟩
        · try simp only [if_neg b3] at h ⊢
          replace b3 := Bool.eq_false_iff.2 b3
          obtain ⟨s5, h⟩ := h
          obtain ⟨s6, h⟩ := h
          exact AtV.fin Tryd.func3 tabOk ext3Ok mixed (p3_4 x0) ⟨b0, s0, s1, trivial, b1, s2, s3, s4, b2, b3, s5, trivial, b1, s6, b2, b3, trivial⟩

def S3 : Am.Spec := { sig := sig3, pre := fun ⟨x0, _⟩ => P3 x0, res := fun ⟨x0, _⟩ => [⟨Ty.bool, g3_0 x0⟩] }
theorem con3 : Contract Tryd.prog 3 S3 := contract_of Tryd.func3 hb3 (Nat.le_of_ble_eq_true (by kernel_rfl)) (fun ⟨x0, _⟩ h _ w0 O q => at3 x0 h w0 O q)


end Go.Proofs.YticibijneahllaaDoor

/- A law that says how functions of the program and of the specification hang together. -/
set_option linter.unusedVariables false
set_option linter.unusedSimpArgs false
set_option maxRecDepth 100000
namespace Go.Proofs.YticibijneahllaaDoor
open Go Go.Am Go.Proofs
theorem name_eq (s : ByteArray) : g43_0 s = g32_0 s := by
  have hs : ∀ c, g49_0 c = (decide (97 ≤ c) && decide (c ≤ 122)) := fun c => by
    unfold g49_0
    by_cases h1 : (97 : Int) ≤ c <;> simp [h1]
  have hd : ∀ c, g50_0 c = (decide (48 ≤ c) && decide (c ≤ 57)) := fun c => by
    unfold g50_0
    by_cases h1 : (48 : Int) ≤ c <;> simp [h1]
  unfold g43_0 g32_0
  have hl := bytesOf_length s
  by_cases h1 : 1 ≤ s.size
  · cases hb : bytesOf s with
    | nil => rw [hb] at hl; simp at hl; omega
    | cons c r =>
      have hr : allI ok43 1 r = r.all fun b => g49_0 b || g50_0 b := by
        rw [← allI_plain (fun b => g49_0 b || g50_0 b) r 1]
        refine allI_congr r 1 fun j x hj => ?_
        have : (j == 0) = false := by simp; omega
        simp only [ok43, this, hs, hd, Bool.not_false, Bool.true_and]
      have h0 : ok43 0 c = g49_0 c := by simp [ok43, hs]
      simp only [allI, hr, h0, List.all_cons, List.getD_cons_zero]
      cases g49_0 c <;> simp
  · simp [h1]


end Go.Proofs.YticibijneahllaaDoor

/- A law that says how functions of the program and of the specification hang together. -/
set_option linter.unusedVariables false
set_option linter.unusedSimpArgs false
set_option maxRecDepth 100000
namespace Go.Proofs.YticibijneahllaaDoor
open Go Go.Am Go.Proofs

theorem index_one (c : UInt8) : ∀ s : List UInt8, Lib.index s [c] = Lib.indexByte s c
  | [] => rfl
  | b :: l => by
    have e : (List.isPrefixOf [c] (b :: l)) = (b == c) := by
      simp only [List.isPrefixOf, Bool.and_true]
      exact Bool.beq_comm
    rw [Lib.index, Lib.indexByte, index_one c l, e]

theorem contains_one (s : List UInt8) (c : UInt8) : Lib.contains s [c] = s.contains c := by
  rw [Lib.contains_iff_indexByte, Lib.contains, index_one]

theorem contains_nl (s : ByteArray) : (!g44_0 s (ByteArray.mk #[10])) = (bytesOf s).all fun b => !(b == 10) := by
  unfold g44_0
  rw [show (ByteArray.mk #[10]).data.toList = [10] from rfl, contains_one]
  show (!s.data.toList.contains 10) = ((s.data.toList.map fun b => (b.toNat : Int)).all fun b => !(b == 10))
  induction s.data.toList with
  | nil => rfl
  | cons c r ih =>
    rw [List.contains_cons, Bool.not_or, ih, List.map_cons, List.all_cons]
    congr 2
    by_cases h : c = 10
    · subst h; rfl
    · have h1 : ((10 : UInt8) == c) = false := by simp; exact fun e => h e.symm
      have h2 : ((c.toNat : Int) == 10) = false := by
        rw [beq_eq_false_iff_ne]
        intro e
        exact h (UInt8.toNat_inj.1 (by show c.toNat = 10; omega))
      rw [h1, h2]

theorem block_eq (x : ByteArray × ByteArray × ByteArray × Unit) : g27_0 x = g20_0 x := by
  obtain ⟨a, b, t, u⟩ := x
  unfold g27_0 g20_0
  simp only [name_eq, ← contains_nl]
  have hc : decide ((t.size : Int) ≤ 400) = decide (t.size ≤ 400) := by
    congr 1; exact propext ⟨fun h => by omega, fun h => by omega⟩
  rw [hc]
  cases g32_0 a <;> cases g32_0 b <;> cases decide (t.size ≤ 400) <;> cases g44_0 t (ByteArray.mk #[10]) <;> rfl

end Go.Proofs.YticibijneahllaaDoor

/- A law that says how functions of the program and of the specification hang together. -/
set_option linter.unusedVariables false
set_option linter.unusedSimpArgs false
set_option maxRecDepth 100000
namespace Go.Proofs.YticibijneahllaaDoor
open Go Go.Am Go.Proofs

/-- A digit. -/
def isD (b : UInt8) : Prop := 48 ≤ b.toNat ∧ b.toNat ≤ 57
/-- The value of digits. -/
def dval : List UInt8 → Nat → Nat
  | [], n => n
  | b :: r, n => dval r (10 * n + (b.toNat - 48))
theorem dval_append : ∀ (l : List UInt8) (b : UInt8) (n : Nat), dval (l ++ [b]) n = 10 * dval l n + (b.toNat - 48)
  | [], _, _ => rfl
  | c :: r, b, n => dval_append r b _
theorem dval_pos : ∀ (l : List UInt8) (n : Nat), 1 ≤ n → 1 ≤ dval l n
  | [], _, h => h
  | b :: r, n, h => dval_pos r _ (by omega)

theorem dsign_nat {a : Nat} (h : a < 10) : (UInt8.ofNat (48 + a)).toNat = 48 + a := by rw [UInt8.toNat_ofNat']; omega

theorem dec_facts (n : Nat) : (∀ b ∈ Lib.decDigits n, isD b) ∧ dval (Lib.decDigits n) 0 = n ∧ 0 < (Lib.decDigits n).length ∧ (1 ≤ n → ((Lib.decDigits n).getD 0 0).toNat ≠ 48) := by
  induction n using Nat.strongRecOn with
  | _ n ih =>
    by_cases h : n < 10
    · rw [Lib.decDigits, dif_pos h]
      have e := dsign_nat h
      refine ⟨fun b hb => ?_, ?_, by simp, fun h1 => ?_⟩
      · rw [List.mem_singleton.1 hb]; unfold isD; omega
      · show 10 * 0 + ((UInt8.ofNat (48 + n)).toNat - 48) = n; omega
      · show (UInt8.ofNat (48 + n)).toNat ≠ 48; omega
    · rw [Lib.decDigits, dif_neg h]
      obtain ⟨i1, i2, i3, i4⟩ := ih (n / 10) (by omega)
      have e := dsign_nat (a := n % 10) (by omega)
      refine ⟨fun b hb => ?_, ?_, by simp, fun h1 => ?_⟩
      · rcases List.mem_append.1 hb with hb | hb
        · exact i1 b hb
        · rw [List.mem_singleton.1 hb]; unfold isD; omega
      · rw [dval_append, i2, e]; omega
      · have i4 := i4 (by omega)
        cases hd : Lib.decDigits (n / 10) with
        | nil => rw [hd] at i3; simp at i3
        | cons c r => rw [hd] at i4; exact i4

theorem dec_canon (n : Nat) : ∀ l : List UInt8, l.length = n → (∀ b ∈ l, isD b) → 0 < l.length → ((l.getD 0 0).toNat ≠ 48 ∨ l.length = 1) → Lib.decDigits (dval l 0) = l := by
  induction n with
  | zero => intro l hl _ h0 _; omega
  | succ n ih =>
    intro l hl hd h0 hc
    rcases List.eq_nil_or_concat l with rfl | ⟨l', b, rfl⟩
    · simp at h0
    · rw [List.concat_eq_append] at *
      have hb : isD b := hd b (by simp)
      unfold isD at hb
      rw [dval_append]
      cases l' with
      | nil =>
        rw [Lib.decDigits, dif_pos (by show 10 * 0 + (b.toNat - 48) < 10; omega)]
        show [UInt8.ofNat (48 + (10 * 0 + (b.toNat - 48)))] = [b]
        congr 1
        rw [← UInt8.toNat_inj, UInt8.toNat_ofNat']; omega
      | cons c r =>
        have hc' : c.toNat ≠ 48 := by
          rcases hc with hc | hc
          · exact hc
          · simp at hc
        have hcd : isD c := hd c (by simp)
        unfold isD at hcd
        have hp : 1 ≤ dval (c :: r) 0 := dval_pos r _ (by omega)
        have hi := ih (c :: r) (by simp at hl ⊢; omega) (fun x hx => hd x (List.mem_append_left _ hx)) (by simp) (.inl hc')
        rw [Lib.decDigits, dif_neg (by omega), show (10 * dval (c :: r) 0 + (b.toNat - 48)) / 10 = dval (c :: r) 0 by omega, hi, show (10 * dval (c :: r) 0 + (b.toNat - 48)) % 10 = b.toNat - 48 by omega]
        congr 2
        rw [← UInt8.toNat_inj, UInt8.toNat_ofNat']; omega

theorem dec_len : ∀ (k n : Nat), n < 10 ^ (k + 1) → (Lib.decDigits n).length ≤ k + 1
  | 0, n, h => by rw [Lib.decDigits, dif_pos (by simpa using h)]; simp
  | k + 1, n, h => by
    rw [Lib.decDigits]
    split
    · simp
    · have := dec_len k (n / 10) (by rw [Nat.pow_succ] at h; omega)
      simp; omega


end Go.Proofs.YticibijneahllaaDoor

/- A law that says how functions of the program and of the specification hang together. -/
set_option linter.unusedVariables false
set_option linter.unusedSimpArgs false
set_option maxRecDepth 100000
namespace Go.Proofs.YticibijneahllaaDoor
open Go Go.Am Go.Proofs

/-- The last d digits of a number, zeros ahead. -/
def pz : Nat → Nat → List UInt8
  | 0, _ => []
  | d + 1, n => pz d (n / 10) ++ [UInt8.ofNat (48 + n % 10)]

theorem pz_len : ∀ d n, (pz d n).length = d
  | 0, _ => rfl
  | d + 1, n => by rw [pz, List.length_append, pz_len d]; rfl

theorem pz_zero : ∀ d, pz d 0 = List.replicate d 48
  | 0 => rfl
  | d + 1 => by
    rw [pz, Nat.zero_div, pz_zero d, List.replicate_succ']
    rfl

/-- One ahead of the digits. -/
theorem dec_ahead : ∀ (d n : Nat), n < 10 ^ d → Lib.decDigits (n + 10 ^ d) = 49 :: pz d n
  | 0, n, h => by
    obtain rfl : n = 0 := by simpa using h
    rw [Lib.decDigits, dif_pos (by decide)]
    rfl
  | d + 1, n, h => by
    have hp : 1 ≤ 10 ^ d := Nat.one_le_pow _ _ (by decide)
    rw [Nat.pow_succ] at h ⊢
    have ih := dec_ahead d (n / 10) (by omega)
    rw [Lib.decDigits, dif_neg (by omega), show (n + 10 ^ d * 10) / 10 = n / 10 + 10 ^ d by omega, show (n + 10 ^ d * 10) % 10 = n % 10 by omega, ih, pz]
    rfl

theorem dec_zeros : ∀ (d n : Nat), 1 ≤ d → n < 10 ^ d → List.replicate (d - (Lib.decDigits n).length) 48 ++ Lib.decDigits n = pz d n
  | 0, _, h, _ => by omega
  | d + 1, n, _, h => by
    rw [pz]
    by_cases hs : n < 10
    · rw [Lib.decDigits, dif_pos hs, show n / 10 = 0 by omega, show n % 10 = n by omega, pz_zero]
      rfl
    · rw [Nat.pow_succ] at h
      have hd : 1 ≤ d := by
        rcases Nat.eq_zero_or_pos d with rfl | hd
        · simp at h; omega
        · exact hd
      have ih := dec_zeros d (n / 10) hd (by omega)
      rw [Lib.decDigits, dif_neg hs, List.length_append, List.length_singleton, Nat.add_sub_add_right, ← List.append_assoc, ih]

/-- The number of digits with zeros ahead. -/
theorem pz_all : ∀ (d n : Nat), ∀ b ∈ pz d n, isD b
  | 0, _, b, hb => by cases hb
  | d + 1, n, b, hb => by
    rw [pz] at hb
    rcases List.mem_append.1 hb with hb | hb
    · exact pz_all d _ b hb
    · rw [List.mem_singleton.1 hb]
      have := dsign_nat (a := n % 10) (by omega)
      unfold isD
      omega

theorem pz_val : ∀ (d n : Nat), n < 10 ^ d → ∀ m, dval (pz d n) m = m * 10 ^ d + n
  | 0, n, h, m => by
    obtain rfl : n = 0 := by simpa using h
    show m = _
    simp
  | d + 1, n, h, m => by
    rw [pz, dval_append, Nat.pow_succ] at *
    rw [pz_val d (n / 10) (by omega), dsign_nat (by omega), Nat.mul_add, ← Nat.mul_assoc]
    rw [show 10 * m * 10 ^ d = m * (10 ^ d * 10) by rw [Nat.mul_comm 10 m, Nat.mul_assoc, Nat.mul_comm 10]]
    omega

/-- Digits are their value with zeros ahead. -/
theorem pz_of (d : Nat) : ∀ l : List UInt8, l.length = d → (∀ b ∈ l, isD b) → pz d (dval l 0) = l ∧ dval l 0 < 10 ^ d := by
  induction d with
  | zero => intro l hl _; rw [List.length_eq_zero_iff] at hl; subst hl; exact ⟨rfl, by decide⟩
  | succ d ih =>
    intro l hl hd
    rcases List.eq_nil_or_concat l with rfl | ⟨l', b, rfl⟩
    · cases hl
    · rw [List.concat_eq_append] at *
      have hb : isD b := hd b (by simp)
      unfold isD at hb
      obtain ⟨i1, i2⟩ := ih l' (by simpa using hl) (fun x hx => hd x (List.mem_append_left _ hx))
      rw [dval_append, pz, Nat.pow_succ, show (10 * dval l' 0 + (b.toNat - 48)) / 10 = dval l' 0 by omega, i1, show (10 * dval l' 0 + (b.toNat - 48)) % 10 = b.toNat - 48 by omega]
      refine ⟨?_, by omega⟩
      congr 2
      rw [← UInt8.toNat_inj, UInt8.toNat_ofNat']; omega

end Go.Proofs.YticibijneahllaaDoor

/- A law that says how functions of the program and of the specification hang together. -/
set_option linter.unusedVariables false
set_option linter.unusedSimpArgs false
set_option maxRecDepth 100000
namespace Go.Proofs.YticibijneahllaaDoor
open Go Go.Am Go.Proofs

theorem bvn (a : Nat) (h : a < 9223372036854775808) : (BitVec.ofInt 64 (a : Int)).toNat = a := by
  rw [BitVec.toNat_ofInt]
  omega

theorem wrn (a : Nat) (h : a < 9223372036854775808) : IntKind.wrap IntKind.i64 (a : Int) = (a : Int) := wrap_of_inR (by rw [i64_iff]; omega)

theorem bit_bound {s : Int} (h : 0 ≤ s ∧ s ≤ 65535) : 0 ≤ bit19 s ∧ bit19 s ≤ 65535 := by
  obtain ⟨a, rfl⟩ := Int.eq_ofNat_of_zero_le h.1
  unfold bit19
  have e : (a : Int) * 2 = ((a * 2 : Nat) : Int) := by omega
  have e6 : BitVec.ofInt 64 65535 = BitVec.ofInt 64 ((65535 : Nat) : Int) := rfl
  have e7 : BitVec.ofInt 64 4129 = BitVec.ofInt 64 ((4129 : Nat) : Int) := rfl
  rw [e, wrn _ (by omega), e6, e7]
  have h1 : (a * 2) &&& 65535 < 65536 := Nat.lt_of_le_of_lt Nat.and_le_right (by decide)
  have h2 : ((a * 2) &&& 65535) ^^^ 4129 < 2 ^ 16 := Nat.xor_lt_two_pow h1 (by decide)
  split
  · rw [BitVec.toNat_and, bvn (a * 2) (by omega), bvn 65535 (by omega), wrn (a * 2 &&& 65535) (by omega), BitVec.toNat_xor, bvn (a * 2 &&& 65535) (by omega), bvn 4129 (by omega), wrn (a * 2 &&& 65535 ^^^ 4129) (by omega)]
    omega
  · rename_i hc
    have hc' : ¬ ((a * 2 : Nat) : Int) > 65535 := fun hh => hc (decide_eq_true hh)
    omega

theorem bits_bound : ∀ (k : Nat) {s : Int}, 0 ≤ s ∧ s ≤ 65535 → 0 ≤ bits19 k s ∧ bits19 k s ≤ 65535
  | 0, _, h => h
  | k + 1, _, h => bits_bound k (bit_bound h)

theorem byte_bound {s c : Int} (h : 0 ≤ s ∧ s ≤ 65535) (hc : 0 ≤ c ∧ c ≤ 255) : 0 ≤ byte19 s c ∧ byte19 s c ≤ 65535 := by
  refine bits_bound 8 ?_
  obtain ⟨a, rfl⟩ := Int.eq_ofNat_of_zero_le h.1
  obtain ⟨b, rfl⟩ := Int.eq_ofNat_of_zero_le hc.1
  have e : (b : Int) * 256 = ((b * 256 : Nat) : Int) := by omega
  have h2 : a ^^^ (b * 256) < 2 ^ 16 := Nat.xor_lt_two_pow (by omega) (by omega)
  rw [e, wrn (b * 256) (by omega), BitVec.toNat_xor, bvn a (by omega), bvn (b * 256) (by omega), wrn (a ^^^ (b * 256)) (by omega)]
  omega

theorem crc_bound (x : ByteArray) {s : Int} (h : 0 ≤ s ∧ s ≤ 65535) : 0 ≤ g19_0 x s ∧ g19_0 x s ≤ 65535 := by
  unfold g19_0
  have hb := bytesOf_range x
  revert hb
  generalize bytesOf x = l
  revert s
  induction l with
  | nil => intro s h _; exact h
  | cons c r ih =>
    intro s h hb
    rw [List.foldl_cons]
    have hc := hb c (List.mem_cons_self ..)
    exact ih (byte_bound h ⟨hc.1, hc.2⟩) fun b hb' => hb b (List.mem_cons_of_mem _ hb')

theorem crc_eq (x : ByteArray) {s : Int} (h : 0 ≤ s ∧ s ≤ 65535) : g25_0 x s = g19_0 x s := by
  unfold g25_0
  rw [if_neg (by
    have c1 : s ≥ 0 := h.1
    unfold g36_0
    simp [c1, h.2])]
  have e : byte25 = byte19 := by
    funext s c
    unfold byte25 byte19
    have : ∀ (k : Nat) (t : Int), bits25 k t = bits19 k t := by
      intro k
      induction k with
      | zero => intro t; rfl
      | succ k ih => intro t; exact ih _
    exact this 8 _
  rw [e]
  rfl

end Go.Proofs.YticibijneahllaaDoor

/- A law that says how functions of the program and of the specification hang together. -/
set_option linter.unusedVariables false
set_option linter.unusedSimpArgs false
set_option maxRecDepth 100000
namespace Go.Proofs.YticibijneahllaaDoor
open Go Go.Am Go.Proofs

theorem f5_list : ∀ (k : Nat) (l : List UInt8), l.length ≤ 5 → 5 ≤ l.length + k → f518 k ⟨⟨l⟩⟩ = ⟨⟨List.replicate (5 - l.length) 48 ++ l⟩⟩
  | 0, l, h1, h2 => by
    rw [show 5 - l.length = 0 by omega]
    rfl
  | k + 1, l, h1, h2 => by
    unfold f518
    have es : (ByteArray.mk ⟨l⟩).size = l.length := rfl
    rw [es]
    split
    · have e : ByteArray.mk #[48] ++ ByteArray.mk ⟨l⟩ = ⟨⟨48 :: l⟩⟩ := by
        apply ByteArray.ext
        apply Array.ext'
        simp [ByteArray.data_append]
      rw [e, f5_list k (48 :: l) (by simp; omega) (by simp; omega)]
      congr 2
      rw [List.length_cons, show 5 - l.length = (5 - (l.length + 1)) + 1 by omega, List.replicate_succ']
      simp
    · rw [show 5 - l.length = 0 by omega]
      rfl

theorem dec_nat (n : Nat) : g31_0 (n : Int) = ⟨⟨Lib.decDigits n⟩⟩ := by
  show numB _ = _
  unfold numB Lib.itoa
  rw [if_neg (by omega), Int.toNat_natCast]

theorem five_pz {n : Nat} (h : n ≤ 65535) : g18_0 (n : Int) = ⟨⟨pz 5 n⟩⟩ := by
  unfold g18_0
  have hl := dec_len 4 n (by omega)
  rw [dec_nat, f5_list 5 _ (by omega) (by omega), dec_zeros 5 n (by decide) (by omega)]

theorem rep_pz {n : Nat} (h : n ≤ 65535) : g26_0 (ByteArray.mk #[48]) (5 - (((g24_0 (n : Int)).size : Nat) : Int)) ++ g24_0 (n : Int) = ⟨⟨pz 5 n⟩⟩ ∧ (((g24_0 (n : Int)).size : Nat) : Int) ≤ 5 ∧ 1 ≤ (((g24_0 (n : Int)).size : Nat) : Int) := by
  have e : g24_0 (n : Int) = ⟨⟨Lib.decDigits n⟩⟩ := dec_nat n
  have hs : (ByteArray.mk ⟨Lib.decDigits n⟩).size = (Lib.decDigits n).length := rfl
  have hl := dec_len 4 n (by omega)
  have h0 := (dec_facts n).2.2.1
  rw [e, hs]
  refine ⟨?_, by omega, by omega⟩
  have hc : (5 : Int) - ((Lib.decDigits n).length : Int) = ((5 - (Lib.decDigits n).length : Nat) : Int) := by omega
  rw [hc]
  apply ByteArray.ext
  apply Array.ext'
  have hr : Lib.repeatL (List.replicate 1 48) (5 - (Lib.decDigits n).length) = List.replicate (5 - (Lib.decDigits n).length) (48 : UInt8) := by
    rw [Lib.repeatL_replicate, Nat.mul_one]
  unfold g26_0
  rw [Int.toNat_natCast, ByteArray.data_append, Array.toList_append]
  show Lib.repeatL [48] _ ++ Lib.decDigits n = _
  have h48 : ([48] : List UInt8) = List.replicate 1 48 := rfl
  rw [h48, hr, dec_zeros 5 n (by decide) (by omega)]

end Go.Proofs.YticibijneahllaaDoor

/- A law that says how functions of the program and of the specification hang together. -/
set_option linter.unusedVariables false
set_option linter.unusedSimpArgs false
set_option maxRecDepth 100000
namespace Go.Proofs.YticibijneahllaaDoor
open Go Go.Am Go.Proofs

def crcN (r : ByteArray) : Nat := (g19_0 r 65535).toNat
theorem crcN_le (r : ByteArray) : crcN r ≤ 65535 := by
  have := crc_bound r (s := 65535) (by decide)
  unfold crcN; omega
theorem crc_s (r : ByteArray) : g19_0 r 65535 = (crcN r : Int) := by
  have := crc_bound r (s := 65535) (by decide)
  unfold crcN; omega
theorem crc_i (r : ByteArray) : g25_0 r 65535 = (crcN r : Int) := by
  rw [crc_eq r (by decide), crc_s]

def restB (b : (ByteArray × ByteArray × ByteArray × Unit)) : List UInt8 := b.1.data.toList ++ 32 :: b.2.1.data.toList ++ 32 :: b.2.2.1.data.toList
theorem rest_eq (b : (ByteArray × ByteArray × ByteArray × Unit)) : Prod.fst b ++ ByteArray.mk #[32] ++ Prod.fst (Prod.snd b) ++ ByteArray.mk #[32] ++ Prod.fst (Prod.snd (Prod.snd b)) = ⟨⟨restB b⟩⟩ := by
  apply ByteArray.ext
  apply Array.ext'
  simp [ByteArray.data_append, restB]

theorem line_eq (b : (ByteArray × ByteArray × ByteArray × Unit)) : g28_0 b = ⟨⟨pz 5 (crcN ⟨⟨restB b⟩⟩) ++ 32 :: restB b⟩⟩ := by
  unfold g28_0
  rw [rest_eq, crc_i, (rep_pz (crcN_le _)).1]
  apply ByteArray.ext
  apply Array.ext'
  simp [ByteArray.data_append]

theorem cut_free {l : List UInt8} (h : (32 : UInt8) ∉ l) : g23_0 ⟨⟨l⟩⟩ (ByteArray.mk #[32]) = ⟨⟨l⟩⟩ ∧ g23_1 ⟨⟨l⟩⟩ (ByteArray.mk #[32]) = ⟨⟨[]⟩⟩ := by
  have hc : Lib.cut (ByteArray.mk ⟨l⟩).data.toList (ByteArray.mk #[32]).data.toList = (l, [], false) := cut_none 32 h
  unfold g23_0 g23_1
  rw [hc]
  exact ⟨rfl, rfl⟩
theorem cut_at {p : List UInt8} (q : List UInt8) (h : (32 : UInt8) ∉ p) : g23_0 ⟨⟨p ++ 32 :: q⟩⟩ (ByteArray.mk #[32]) = ⟨⟨p⟩⟩ ∧ g23_1 ⟨⟨p ++ 32 :: q⟩⟩ (ByteArray.mk #[32]) = ⟨⟨q⟩⟩ := by
  have hc : Lib.cut (ByteArray.mk ⟨p ++ 32 :: q⟩).data.toList (ByteArray.mk #[32]).data.toList = (p, q, true) := cut_hit 32 q h
  unfold g23_0 g23_1
  rw [hc]
  exact ⟨rfl, rfl⟩

theorem nx_free : ∀ {l : List UInt8}, (32 : UInt8) ∉ l → nx10 l = l.length
  | [], _ => rfl
  | b :: r, h => by
    have hb : ¬ b.toNat = 32 := fun e => h (by rw [show b = 32 from UInt8.toNat_inj.1 e]; exact List.mem_cons_self ..)
    unfold nx10
    rw [if_neg hb, nx_free fun hm => h (List.mem_cons_of_mem _ hm)]
    rfl
theorem nx_at : ∀ {p : List UInt8} (q : List UInt8), (32 : UInt8) ∉ p → nx10 (p ++ 32 :: q) = p.length
  | [], q, _ => rfl
  | b :: r, q, h => by
    have hb : ¬ b.toNat = 32 := fun e => h (by rw [show b = 32 from UInt8.toNat_inj.1 e]; exact List.mem_cons_self ..)
    rw [List.cons_append]
    unfold nx10
    rw [if_neg hb, nx_at q fun hm => h (List.mem_cons_of_mem _ hm)]
    rfl

theorem name_none : g32_0 ⟨⟨[]⟩⟩ = false := by rfl

theorem one_none (p t : ByteArray) : g20_0 (p, ⟨⟨[]⟩⟩, t, ()) = false := by
  unfold g20_0
  rw [name_none]
  simp

theorem ext_of (l : List UInt8) (a b : Nat) : ByteArray.extract ⟨⟨l⟩⟩ a b = ⟨⟨(l.drop a).take (b - a)⟩⟩ := Lib.extract_mk l a b

theorem line_parts {x : ByteArray} (h1 : ¬ x.size < 6) (h2 : (x.data.toList.getD 5 0).toNat = 32) : x = ⟨⟨(ByteArray.extract x 0 5).data.toList ++ 32 :: (rs10 x).data.toList⟩⟩ := by
  obtain ⟨⟨l⟩⟩ := x
  have hl : ¬ l.length < 6 := h1
  have h2' : l.getD 5 0 = 32 := UInt8.toNat_inj.1 h2
  have es : (ByteArray.mk ⟨l⟩).size = l.length := rfl
  unfold rs10
  rw [es, ext_of, ext_of]
  congr 2
  have e : l.drop 5 = 32 :: l.drop 6 := by
    have e := drop_get l 5 0 (by omega)
    rw [h2'] at e
    exact e
  have e5 : (l.drop 6).take (l.length - 6) = l.drop 6 := List.take_of_length_le (by rw [List.length_drop]; exact Nat.le_refl _)
  simp only [List.drop_zero, Nat.sub_zero]
  rw [e5, ← e, List.take_append_drop]

theorem parse_eq (x : ByteArray) : g13_0 x = g10_0 x ∧ g13_1 x = g10_1 x := by
  have e0 : ByteArray.extract x 6 x.size = rs10 x := rfl
  unfold g13_0 g13_1 g10_0 g10_1 sum10
  simp only [Int.toNat_natCast, e0]
  by_cases h1 : x.size < 6
  · have c : decide ((x.size : Int) < 6) = true := decide_eq_true (by omega)
    simp only [c, h1, if_true, and_self]
  have c1 : decide ((x.size : Int) < 6) = false := decide_eq_false (by omega)
  by_cases h2 : (x.data.toList.getD 5 0).toNat = 32
  case neg =>
    have c2 : ((((x.data.toList.getD 5 0).toNat : Nat) : Int) != 32) = true := byte10.2 h2
    simp only [c1, h1, c2, h2, if_true, if_false, Bool.false_eq_true, ne_eq, not_false_eq_true, and_self]
  case pos =>
    have c2 : ((((x.data.toList.getD 5 0).toNat : Nat) : Int) != 32) = false := by
      rw [Bool.eq_false_iff]; intro h; exact byte10.1 h h2
    have hx := line_parts h1 h2
    have c32 : (((32 : Nat) : Int) != 32) = false := rfl
    rw [crc_i, crc_s, (rep_pz (crcN_le _)).1, five_pz (crcN_le _)]
    simp only [c1, h1, h2, c32, if_false, Bool.false_eq_true, ne_eq, not_true_eq_false]
    generalize hr : rs10 x = rs at *
    obtain ⟨⟨l⟩⟩ := rs
    by_cases h3 : ByteArray.extract x 0 5 = ⟨⟨pz 5 (crcN ⟨⟨l⟩⟩)⟩⟩
    case neg =>
      have c3 : (!ByteArray.toList (ByteArray.extract x 0 5) == ByteArray.toList ⟨⟨pz 5 (crcN ⟨⟨l⟩⟩)⟩⟩) = true := by
        rw [Bool.not_eq_true', Bool.eq_false_iff]
        intro h; exact h3 ((bytes_eq _ _).1 h)
      simp only [c3, if_true, and_self]
    case pos =>
      rw [h3] at hx ⊢
      have c3 : (!ByteArray.toList (ByteArray.mk ⟨pz 5 (crcN ⟨⟨l⟩⟩)⟩) == ByteArray.toList (ByteArray.mk ⟨pz 5 (crcN ⟨⟨l⟩⟩)⟩)) = false := by simp
      simp only [c3, Bool.false_eq_true, if_false, block_eq]
      have hs : (ByteArray.mk ⟨l⟩).size = l.length := rfl
      rcases split_at 32 l with hf | ⟨p, q, rfl, hp⟩
      · obtain ⟨k1, k2⟩ := cut_free hf
        obtain ⟨k3, k4⟩ := cut_free (l := []) (by simp)
        have ht : to10 ⟨⟨l⟩⟩ = l.length + 1 := by
          show nx10 l + 1 + nx10 (l.drop (nx10 l + 1)) = _
          rw [nx_free hf, List.drop_of_length_le (by omega)]
          rfl
        have hk : ok10 ⟨⟨l⟩⟩ (at10 ⟨⟨l⟩⟩) (to10 ⟨⟨l⟩⟩) = false := by
          unfold ok10
          rw [ht, decide_eq_false (by omega), Bool.false_and]
        unfold fb10 fc10
        rw [k1, k2, k3, k4, one_none, hk]
        simp
      · obtain ⟨k1, k2⟩ := cut_at q hp
        rw [k1, k2]
        have ha : at10 ⟨⟨p ++ 32 :: q⟩⟩ = p.length := nx_at q hp
        have hd : (p ++ 32 :: q).drop (p.length + 1) = q := by
          rw [show p ++ 32 :: q = (p ++ [32]) ++ q by simp]
          rw [List.drop_left' (by simp)]
        have ht : to10 ⟨⟨p ++ 32 :: q⟩⟩ = p.length + 1 + nx10 q := by
          unfold to10
          rw [ha]
          show p.length + 1 + nx10 ((p ++ 32 :: q).drop (p.length + 1)) = _
          rw [hd]
        rcases split_at 32 q with hf | ⟨r, t, rfl, hr2⟩
        · obtain ⟨k3, k4⟩ := cut_free hf
          rw [nx_free hf] at ht
          have hk : ok10 ⟨⟨p ++ 32 :: q⟩⟩ (at10 ⟨⟨p ++ 32 :: q⟩⟩) (to10 ⟨⟨p ++ 32 :: q⟩⟩) = false := by
            unfold ok10
            rw [ht, decide_eq_false (by rw [hs]; simp; omega), Bool.false_and]
          have hne : (!ByteArray.toList (g28_0 (⟨⟨p⟩⟩, ⟨⟨q⟩⟩, ⟨⟨[]⟩⟩, ())) == ByteArray.toList x) = true := by
            rw [Bool.not_eq_true', Bool.eq_false_iff]
            intro h
            have h := (bytes_eq _ _).1 h
            rw [line_eq, hx] at h
            have := congrArg (fun y : ByteArray => y.data.toList.length) h
            simp [restB, pz_len] at this
          unfold fb10 fc10
          rw [k3, k4, hk, hne]
          simp
        · obtain ⟨k3, k4⟩ := cut_at t hr2
          rw [nx_at t hr2] at ht
          have hblk : blk10 ⟨⟨p ++ 32 :: (r ++ 32 :: t)⟩⟩ p.length (p.length + 1 + r.length) = (⟨⟨p⟩⟩, ⟨⟨r⟩⟩, ⟨⟨t⟩⟩, ()) := by
            unfold blk10
            rw [hs, ext_of, ext_of, ext_of]
            have d1 : (p ++ 32 :: (r ++ 32 :: t)).drop (p.length + 1 + r.length + 1) = t := by
              rw [show p ++ 32 :: (r ++ 32 :: t) = (p ++ [32] ++ r ++ [32]) ++ t by simp]
              rw [List.drop_left' (by simp; omega)]
            rw [hd, d1]
            have e1 : p.length + (r.length + (t.length + 1) + 1) - (p.length + 1 + r.length + 1) = t.length := by omega
            simp [e1]
          have hk : ok10 ⟨⟨p ++ 32 :: (r ++ 32 :: t)⟩⟩ p.length (p.length + 1 + r.length) = g20_0 (⟨⟨p⟩⟩, ⟨⟨r⟩⟩, ⟨⟨t⟩⟩, ()) := by
            unfold ok10
            rw [hblk, decide_eq_true (show p.length + 1 + r.length < (ByteArray.mk ⟨p ++ 32 :: (r ++ 32 :: t)⟩).size by rw [hs]; simp only [List.length_append, List.length_cons]; omega), Bool.true_and]
          have hne : (!ByteArray.toList (g28_0 (⟨⟨p⟩⟩, ⟨⟨r⟩⟩, ⟨⟨t⟩⟩, ())) == ByteArray.toList x) = false := by
            have hrb : restB ((⟨⟨p⟩⟩, ⟨⟨r⟩⟩, ⟨⟨t⟩⟩, ()) : (ByteArray × ByteArray × ByteArray × Unit)) = p ++ 32 :: (r ++ 32 :: t) := by simp [restB]
            rw [line_eq, hrb, ← hx]
            simp
          unfold fb10 fc10
          rw [k3, k4, hne, ha, ht, hk, hblk]
          cases g20_0 (⟨⟨p⟩⟩, ⟨⟨r⟩⟩, ⟨⟨t⟩⟩, ()) <;> simp

end Go.Proofs.YticibijneahllaaDoor

/- A law that says how functions of the program and of the specification hang together. -/
set_option linter.unusedVariables false
set_option linter.unusedSimpArgs false
set_option maxRecDepth 100000
namespace Go.Proofs.YticibijneahllaaDoor
open Go Go.Am Go.Proofs

theorem ifT2 {c : Prop} [Decidable c] {Q : Prop} (h : ¬ c → Q) : if c then True else Q := by
  by_cases hc : c
  · rw [if_pos hc]; trivial
  · rw [if_neg hc]; exact h hc

theorem cut_size (t s : ByteArray) : (g23_0 t s).size ≤ t.size ∧ (g23_1 t s).size ≤ t.size := by
  obtain ⟨l1, l2⟩ := cutLen23 t.data.toList s.data.toList
  have e : t.data.toList.length = t.size := rfl
  have a1 : (g23_0 t s).size = (Lib.cut t.data.toList s.data.toList).1.length := by
    show (List.toArray _).size = _
    rw [List.size_toArray]
  have a2 : (g23_1 t s).size = (Lib.cut t.data.toList s.data.toList).2.1.length := by
    show (List.toArray _).size = _
    rw [List.size_toArray]
  omega

theorem rep_size {n : Nat} (h : n ≤ 65535) : (g26_0 (ByteArray.mk #[48]) (5 - (((g24_0 (n : Int)).size : Nat) : Int))).size + (g24_0 (n : Int)).size = 5 := by
  have := congrArg ByteArray.size (rep_pz h).1
  rw [ByteArray.size_append] at this
  have e : (ByteArray.mk ⟨pz 5 n⟩).size = (pz 5 n).length := rfl
  rw [e, pz_len] at this
  exact this

theorem line_pre (b : (ByteArray × ByteArray × ByteArray × Unit)) (h1 : b.1.size ≤ 1048576) (h2 : b.2.1.size ≤ 1048576) (h3 : b.2.2.1.size ≤ 1048576) : P28 b := by
  unfold P28
  have e : g25_0 (Prod.fst b ++ ByteArray.mk #[32] ++ Prod.fst (Prod.snd b) ++ ByteArray.mk #[32] ++ Prod.fst (Prod.snd (Prod.snd b))) 65535 = (crcN ⟨⟨restB b⟩⟩ : Int) := by rw [rest_eq, crc_i]
  rw [e]
  have hn := crcN_le ⟨⟨restB b⟩⟩
  generalize crcN ⟨⟨restB b⟩⟩ = n at *
  have r := rep_size hn
  obtain ⟨_, r2, r3⟩ := rep_pz hn
  have i32 : (ByteArray.mk #[32]).size = 1 := rfl
  have i48 : (((ByteArray.mk #[48]).size : Nat) : Int) = 1 := rfl
  simp only [ByteArray.size_append, i32]
  refine ⟨by omega, by omega, by omega, by omega, ⟨rfl, trivial⟩, by rw [i64_iff]; omega, ⟨by omega, by rw [i48]; omega⟩, by omega, by omega, by omega, trivial⟩

theorem parse_pre (x : ByteArray) (h : x.size ≤ 1048576) : P13 x := by
  unfold P13
  refine ifT2 fun h1 => ?_
  have h1' : ¬ (x.size : Int) < 6 := fun hh => h1 (decide_eq_true hh)
  have hr : (ByteArray.extract x 6 (Int.toNat ((x.size : Nat) : Int))).size ≤ 1048576 := by rw [ByteArray.size_extract]; omega
  generalize ByteArray.extract x 6 (Int.toNat ((x.size : Nat) : Int)) = rs at *
  obtain ⟨k1, k2⟩ := cut_size rs (ByteArray.mk #[32])
  obtain ⟨k3, k4⟩ := cut_size (g23_1 rs (ByteArray.mk #[32])) (ByteArray.mk #[32])
  rw [crc_i]
  have hn := crcN_le rs
  generalize crcN rs = n at *
  have r := rep_size hn
  obtain ⟨_, r2, r3⟩ := rep_pz hn
  have i48 : (((ByteArray.mk #[48]).size : Nat) : Int) = 1 := rfl
  refine ⟨by omega, ifT2 fun _ => ⟨by omega, (show rs.size < 4294967281 by omega), (show (g23_1 rs (ByteArray.mk #[32])).size < 4294967281 by omega), by omega, ⟨rfl, trivial⟩, by omega, by rw [i64_iff]; omega, ⟨by omega, by rw [i48]; omega⟩, by omega, ifT2 fun _ => ⟨pre27 _, ifT2 fun _ => ⟨line_pre _ (by show (g23_0 rs (ByteArray.mk #[32])).size ≤ _; omega) (by show (g23_0 (g23_1 rs (ByteArray.mk #[32])) (ByteArray.mk #[32])).size ≤ _; omega) (by show (g23_1 (g23_1 rs (ByteArray.mk #[32])) (ByteArray.mk #[32])).size ≤ _; omega), trivial⟩⟩⟩⟩


end Go.Proofs.YticibijneahllaaDoor

/- A law that says how functions of the program and of the specification hang together. -/
set_option linter.unusedVariables false
set_option linter.unusedSimpArgs false
set_option maxRecDepth 100000
namespace Go.Proofs.YticibijneahllaaDoor
open Go Go.Am Go.Proofs

theorem nan (s : ByteArray) : g79_0 s = false := by simp [g79_0]

theorem cmp_str (a b : ByteArray) : g62_0 a b = if Op.bytesLess (ByteArray.toList a) (ByteArray.toList b) = true then -1 else if (ByteArray.toList a == ByteArray.toList b) = true then 0 else 1 := by
  unfold g62_0
  simp only [nan, Bool.false_eq_true, if_false]
  cases Op.bytesLess (ByteArray.toList a) (ByteArray.toList b) <;> cases (ByteArray.toList a == ByteArray.toList b) <;> rfl

theorem before_cmp (a b : ByteArray × ByteArray × ByteArray × Unit) : (!decide (g45_0 a b ≥ 0)) = g21_0 a b := by
  unfold g45_0 g21_0
  simp only [g61_0, cmp_str]
  cases Op.bytesLess (ByteArray.toList a.1) (ByteArray.toList b.1) <;> cases (ByteArray.toList a.1 == ByteArray.toList b.1) <;> cases Op.bytesLess (ByteArray.toList a.2.1) (ByteArray.toList b.2.1) <;> cases (ByteArray.toList a.2.1 == ByteArray.toList b.2.1) <;> decide


end Go.Proofs.YticibijneahllaaDoor

/- A law that says how functions of the program and of the specification hang together. -/
set_option linter.unusedVariables false
set_option linter.unusedSimpArgs false
set_option maxRecDepth 100000
namespace Go.Proofs.YticibijneahllaaDoor
open Go Go.Am Go.Proofs

/-- Blocks in order, as the program looks at them. -/
def okV (x0 : List (ByteArray × ByteArray × ByteArray × Unit)) (i : Nat) (x : (ByteArray × ByteArray × ByteArray × Unit)) : Bool :=
  g20_0 x && (i == 0 || g21_0 (x0.getD (i - 1) (ByteArray.empty, ByteArray.empty, ByteArray.empty, ())) x)
def l29OkV (x0 : List (ByteArray × ByteArray × ByteArray × Unit)) : Bool := allI (okV x0) 0 x0 && decide (x0.length ≤ 32)

theorem blocks_eq (x : List (ByteArray × ByteArray × ByteArray × Unit)) : g29_0 x = l29OkV x := by
  unfold g29_0 l29OkV
  congr 1
  refine allI_congr x 0 fun j y _ => ?_
  unfold ok29 okV
  rw [block_eq, before_cmp]

end Go.Proofs.YticibijneahllaaDoor

/- A law that says how functions of the program and of the specification hang together. -/
set_option linter.unusedVariables false
set_option linter.unusedSimpArgs false
set_option maxRecDepth 100000
namespace Go.Proofs.YticibijneahllaaDoor
open Go Go.Am Go.Proofs

theorem before_iff (a b : (ByteArray × ByteArray × ByteArray × Unit)) : g21_0 a b = true ↔ sless a.1 b.1 = true ∨ (a.1 = b.1 ∧ sless a.2.1 b.2.1 = true) := by
  unfold g21_0 sless
  have e := bytes_eq a.1 b.1
  cases h1 : Op.bytesLess (ByteArray.toList a.1) (ByteArray.toList b.1) with
  | true => simp
  | false =>
    cases h2 : (ByteArray.toList a.1 == ByteArray.toList b.1) with
    | true => rw [h2] at e; simp [e.1 rfl]
    | false =>
      rw [h2] at e
      have : a.1 ≠ b.1 := fun h => by have := e.2 h; cases this
      simp [this]

theorem before_trans {a b c : (ByteArray × ByteArray × ByteArray × Unit)} (h1 : g21_0 a b = true) (h2 : g21_0 b c = true) : g21_0 a c = true := by
  rw [before_iff] at *
  rcases h1 with h1 | ⟨e1, h1⟩
  · rcases h2 with h2 | ⟨e2, h2⟩
    · exact .inl (sless_trans h1 h2)
    · exact .inl (by rw [← e2]; exact h1)
  · rcases h2 with h2 | ⟨e2, h2⟩
    · exact .inl (by rw [e1]; exact h2)
    · exact .inr ⟨e1.trans e2, sless_trans h1 h2⟩

/-- Two blocks of one kind and name. -/
def twins (a b : (ByteArray × ByteArray × ByteArray × Unit)) : Prop := a.1 = b.1 ∧ a.2.1 = b.2.1

theorem before_twins {a b : (ByteArray × ByteArray × ByteArray × Unit)} (h : twins a b) : g21_0 a b = false := by
  rw [Bool.eq_false_iff]
  intro hb
  rw [before_iff, h.1, h.2, sless_irrefl, sless_irrefl] at hb
  simp at hb

theorem before_left {a b c : (ByteArray × ByteArray × ByteArray × Unit)} (h : twins b c) (hb : g21_0 a b = true) : g21_0 a c = true := by
  rw [before_iff] at *
  rw [← h.1, ← h.2]
  exact hb

theorem before_tri {a b : (ByteArray × ByteArray × ByteArray × Unit)} (h1 : g21_0 a b = false) (h2 : ¬ twins a b) : g21_0 b a = true := by
  rw [Bool.eq_false_iff, ne_eq, before_iff, not_or] at h1
  rw [before_iff]
  cases h3 : sless b.1 a.1 with
  | true => exact .inl rfl
  | false =>
    have e : a.1 = b.1 := sless_tri (Bool.eq_false_iff.2 h1.1) h3
    refine .inr ⟨e.symm, ?_⟩
    cases h4 : sless b.2.1 a.2.1 with
    | true => rfl
    | false =>
      exfalso
      refine h2 ⟨e, sless_tri (Bool.eq_false_iff.2 fun h => h1.2 ⟨e, h⟩) h4⟩

theorem cmp_lt (a b : (ByteArray × ByteArray × ByteArray × Unit)) : decide (g45_0 a b < 0) = g21_0 a b := by
  rw [← before_cmp]
  by_cases h : g45_0 a b < 0
  · have : ¬ g45_0 a b ≥ 0 := by omega
    simp [h]
  · have : g45_0 a b ≥ 0 := by omega
    simp [h, this]

theorem cmp_eq (a b : (ByteArray × ByteArray × ByteArray × Unit)) : (g45_0 a b == 0) = true ↔ twins a b := by
  unfold twins g45_0
  simp only [g61_0, cmp_str]
  rw [← bytes_eq, ← bytes_eq]
  have irr : ∀ s t : ByteArray, (ByteArray.toList s == ByteArray.toList t) = true → Op.bytesLess (ByteArray.toList s) (ByteArray.toList t) = false := fun s t h => by
    rw [(bytes_eq s t).1 h]; exact bl_irrefl _
  cases h1 : (ByteArray.toList a.1 == ByteArray.toList b.1) with
  | true =>
    rw [irr _ _ h1]
    cases h2 : (ByteArray.toList a.2.1 == ByteArray.toList b.2.1) with
    | true => rw [irr _ _ h2]; decide
    | false => cases Op.bytesLess (ByteArray.toList a.2.1) (ByteArray.toList b.2.1) <;> decide
  | false => cases Op.bytesLess (ByteArray.toList a.1) (ByteArray.toList b.1) <;> simp

/-- The blocks of a valid list rise. -/
theorem allI_get {α : Type} {q : Nat → α → Bool} : ∀ {l : List α} {i : Nat}, allI q i l = true → ∀ (j : Nat) (h : j < l.length), q (i + j) l[j] = true
  | x :: r, i, h, j, hj => by
    simp only [allI, Bool.and_eq_true] at h
    cases j with
    | zero => exact h.1
    | succ j =>
      have := allI_get h.2 j (by simpa using hj)
      rw [show i + (j + 1) = i + 1 + j from by omega]
      exact this
  | [], _, _, j, hj => by cases hj

theorem sorted (x : List (ByteArray × ByteArray × ByteArray × Unit)) (h : l29OkV x = true) : x.length ≤ 32 ∧ ∀ i j : Nat, i < j → (hj : j < x.length) → g21_0 (x.getD i (ByteArray.empty, ByteArray.empty, ByteArray.empty, ())) (x.getD j (ByteArray.empty, ByteArray.empty, ByteArray.empty, ())) = true := by
  unfold l29OkV at h
  simp only [Bool.and_eq_true, decide_eq_true_eq] at h
  refine ⟨h.2, ?_⟩
  have step : ∀ j : Nat, j + 1 < x.length → g21_0 (x.getD j (ByteArray.empty, ByteArray.empty, ByteArray.empty, ())) (x.getD (j + 1) (ByteArray.empty, ByteArray.empty, ByteArray.empty, ())) = true := fun j hj => by
    have := allI_get h.1 (j + 1) hj
    rw [Nat.zero_add] at this
    unfold okV at this
    simp only [Bool.and_eq_true, Nat.add_sub_cancel] at this
    rw [getD_lt x (j + 1) _ hj]
    simpa using this.2
  intro i j hij
  induction j with
  | zero => omega
  | succ j ih =>
    intro hj
    rcases Nat.lt_or_ge i j with hlt | hge
    · exact before_trans (ih hlt (by omega)) (step j hj)
    · have : i = j := by omega
      subst this
      exact step i hj

end Go.Proofs.YticibijneahllaaDoor

/- A law that says how functions of the program and of the specification hang together. -/
set_option linter.unusedVariables false
set_option linter.unusedSimpArgs false
set_option maxRecDepth 100000
namespace Go.Proofs.YticibijneahllaaDoor
open Go Go.Am Go.Proofs

theorem bsearch_at (p : Nat → Bool) (k N : Nat) (hk : ∀ i, i < N → p i = decide (i < k)) : ∀ (m i j : Nat), j - i < m → i ≤ k → k ≤ j → j ≤ N → bsearch p m i j = k
  | 0, i, j, h, _, _, _ => by omega
  | m + 1, i, j, h, h1, h2, h3 => by
    simp only [bsearch]
    split
    · rw [hk _ (by omega)]
      split
      · rename_i h4
        simp only [decide_eq_true_eq] at h4
        exact bsearch_at p k N hk m _ _ (by omega) (by omega) h2 h3
      · rename_i h4
        simp only [decide_eq_true_eq] at h4
        exact bsearch_at p k N hk m _ _ (by omega) h1 (by omega) (by omega)
    · omega

theorem cut_atS (p : Nat → Bool) : ∀ N : Nat, (∀ i j, i < j → j < N → p j = true → p i = true) → ∃ k, k ≤ N ∧ ∀ i, i < N → p i = decide (i < k)
  | 0, _ => ⟨0, Nat.le_refl _, fun i h => by omega⟩
  | N + 1, hm => by
    obtain ⟨k, h1, h2⟩ := cut_atS p N (fun i j hij hj => hm i j hij (by omega))
    cases hp : p N with
    | true =>
      refine ⟨N + 1, Nat.le_refl _, fun i hi => ?_⟩
      rw [decide_eq_true hi]
      rcases Nat.lt_or_ge i N with h | h
      · exact hm i N h (by omega) hp
      · rw [show i = N from by omega]; exact hp
    | false =>
      refine ⟨k, by omega, fun i hi => ?_⟩
      rcases Nat.lt_or_ge i N with h | h
      · exact h2 i h
      · rw [show i = N from by omega, hp, decide_eq_false (by omega)]

end Go.Proofs.YticibijneahllaaDoor

/- A law that says how functions of the program and of the specification hang together. -/
set_option linter.unusedVariables false
set_option linter.unusedSimpArgs false
set_option maxRecDepth 100000
namespace Go.Proofs.YticibijneahllaaDoor
open Go Go.Am Go.Proofs

/-- In order, whatever the length. -/
def Srt (x : List (ByteArray × ByteArray × ByteArray × Unit)) : Prop := ∀ i j : Nat, i < j → j < x.length → g21_0 (x.getD i (ByteArray.empty, ByteArray.empty, ByteArray.empty, ())) (x.getD j (ByteArray.empty, ByteArray.empty, ByteArray.empty, ())) = true

theorem placeS (x : List (ByteArray × ByteArray × ByteArray × Unit)) (t : (ByteArray × ByteArray × ByteArray × Unit)) (hs : Srt x) :
    k63c45 x t ≤ x.length ∧
    (∀ i, i < k63c45 x t → g21_0 (x.getD i (ByteArray.empty, ByteArray.empty, ByteArray.empty, ())) t = true) ∧
    (∀ i, k63c45 x t ≤ i → i < x.length → g21_0 (x.getD i (ByteArray.empty, ByteArray.empty, ByteArray.empty, ())) t = false) := by
  have hp : ∀ i, p63c45 x t i = g21_0 (x.getD i (ByteArray.empty, ByteArray.empty, ByteArray.empty, ())) t := fun i => cmp_lt _ _
  obtain ⟨k, hk1, hk2⟩ := cut_atS (p63c45 x t) x.length (fun i j hij hj h => by
    rw [hp] at h ⊢
    exact before_trans (hs i j hij hj) h)
  have e : k63c45 x t = k := bsearch_at _ k x.length hk2 _ _ _ (by omega) (by omega) hk1 (Nat.le_refl _)
  rw [e]
  refine ⟨hk1, fun i hi => ?_, fun i hi hl => ?_⟩
  · rw [← hp, hk2 i (by omega)]; simpa using hi
  · rw [← hp, hk2 i hl]; simpa using hi

theorem twinB (y t : (ByteArray × ByteArray × ByteArray × Unit)) : (ByteArray.toList y.1 == ByteArray.toList t.1 && ByteArray.toList y.2.1 == ByteArray.toList t.2.1) = true ↔ twins y t := by
  unfold twins
  rw [Bool.and_eq_true, bytes_eq, bytes_eq]

theorem put_low (t : (ByteArray × ByteArray × ByteArray × Unit)) : ∀ (l h : List (ByteArray × ByteArray × ByteArray × Unit)), (∀ y ∈ l, g21_0 y t = true) → l.foldl (st11 t) (h, false) = (h ++ l, false)
  | [], h, _ => by simp
  | y :: r, h, hl => by
    have hb := hl y (List.mem_cons_self ..)
    have ht : ¬ twins y t := fun h => by rw [before_twins h] at hb; cases hb
    have hf : (ByteArray.toList y.1 == ByteArray.toList t.1 && ByteArray.toList y.2.1 == ByteArray.toList t.2.1) = false := Bool.eq_false_iff.2 fun h => ht ((twinB y t).1 h)
    have e : st11 t (h, false) y = (h ++ [y], false) := by
      unfold st11
      rw [hf, hb]
      rfl
    rw [List.foldl_cons, e, put_low t r (h ++ [y]) (fun z hz => hl z (List.mem_cons_of_mem _ hz))]
    simp

theorem put_high (t : (ByteArray × ByteArray × ByteArray × Unit)) : ∀ (l h : List (ByteArray × ByteArray × ByteArray × Unit)), (∀ y ∈ l, ¬ twins y t) → l.foldl (st11 t) (h, true) = (h ++ l, true)
  | [], h, _ => by simp
  | y :: r, h, hl => by
    have ht := hl y (List.mem_cons_self ..)
    have hf : (ByteArray.toList y.1 == ByteArray.toList t.1 && ByteArray.toList y.2.1 == ByteArray.toList t.2.1) = false := Bool.eq_false_iff.2 fun h => ht ((twinB y t).1 h)
    have e : st11 t (h, true) y = (h ++ [y], true) := by
      unfold st11
      rw [hf]
      rfl
    rw [List.foldl_cons, e, put_high t r (h ++ [y]) (fun z hz => hl z (List.mem_cons_of_mem _ hz))]
    simp

theorem mem_take_get {x : List (ByteArray × ByteArray × ByteArray × Unit)} {K : Nat} {y : (ByteArray × ByteArray × ByteArray × Unit)} (h : y ∈ x.take K) : ∃ i, i < K ∧ i < x.length ∧ y = x.getD i (ByteArray.empty, ByteArray.empty, ByteArray.empty, ()) := by
  obtain ⟨i, hi, rfl⟩ := List.mem_iff_getElem.1 h
  rw [List.length_take] at hi
  exact ⟨i, by omega, by omega, by rw [List.getElem_take, getD_lt _ _ _ (by omega)]⟩

theorem mem_drop_get {x : List (ByteArray × ByteArray × ByteArray × Unit)} {K : Nat} {y : (ByteArray × ByteArray × ByteArray × Unit)} (h : y ∈ x.drop K) : ∃ i, K ≤ i ∧ i < x.length ∧ y = x.getD i (ByteArray.empty, ByteArray.empty, ByteArray.empty, ()) := by
  obtain ⟨i, hi, rfl⟩ := List.mem_iff_getElem.1 h
  rw [List.length_drop] at hi
  exact ⟨K + i, by omega, by omega, by rw [List.getElem_drop, getD_lt _ _ _ (by omega)]⟩


open Classical in
theorem put_at (x : List (ByteArray × ByteArray × ByteArray × Unit)) (t : (ByteArray × ByteArray × ByteArray × Unit)) (hs : Srt x) (K : Nat) (hK : K ≤ x.length) (h1 : ∀ i, i < K → g21_0 (x.getD i (ByteArray.empty, ByteArray.empty, ByteArray.empty, ())) t = true) (h2 : ∀ i, K ≤ i → i < x.length → g21_0 (x.getD i (ByteArray.empty, ByteArray.empty, ByteArray.empty, ())) t = false) :
    g11_0 x t = if K < x.length ∧ twins (x.getD K (ByteArray.empty, ByteArray.empty, ByteArray.empty, ())) t then x.take K ++ t :: x.drop (K + 1) else x.take K ++ t :: x.drop K := by
  unfold g11_0
  have e : x.foldl (st11 t) ([], false) = (x.drop K).foldl (st11 t) (x.take K, false) := by
    conv => lhs; rw [← List.take_append_drop K x]
    rw [List.foldl_append, put_low t _ _ (fun y hy => by
      obtain ⟨i, hi, _, rfl⟩ := mem_take_get hy
      exact h1 i hi)]
    rfl
  rw [e]
  by_cases hlt : K < x.length
  · have hd : x.drop K = x.getD K (ByteArray.empty, ByteArray.empty, ByteArray.empty, ()) :: x.drop (K + 1) := drop_get x K _ hlt
    have hb := h2 K (Nat.le_refl _) hlt
    have hrest : ∀ y ∈ x.drop (K + 1), ¬ twins y t := fun y hy ht => by
      obtain ⟨i, hi, hl, rfl⟩ := mem_drop_get hy
      have := before_left ht (hs K i (by omega) hl)
      rw [hb] at this
      cases this
    rw [hd, List.foldl_cons]
    by_cases htw : twins (x.getD K (ByteArray.empty, ByteArray.empty, ByteArray.empty, ())) t
    · have e2 : st11 t (x.take K, false) (x.getD K (ByteArray.empty, ByteArray.empty, ByteArray.empty, ())) = (x.take K ++ [t], true) := by
        unfold st11
        rw [(twinB _ t).2 htw, hb]
        rfl
      rw [e2, put_high t _ _ hrest, if_pos ⟨hlt, htw⟩]
      simp [fin11]
    · have hf : (ByteArray.toList (x.getD K (ByteArray.empty, ByteArray.empty, ByteArray.empty, ())).1 == ByteArray.toList t.1 && ByteArray.toList (x.getD K (ByteArray.empty, ByteArray.empty, ByteArray.empty, ())).2.1 == ByteArray.toList t.2.1) = false := Bool.eq_false_iff.2 fun h => htw ((twinB _ t).1 h)
      have e2 : st11 t (x.take K, false) (x.getD K (ByteArray.empty, ByteArray.empty, ByteArray.empty, ())) = (x.take K ++ [t] ++ [x.getD K (ByteArray.empty, ByteArray.empty, ByteArray.empty, ())], true) := by
        unfold st11
        rw [hf, hb]
        rfl
      rw [e2, put_high t _ _ hrest, if_neg (fun h => htw h.2)]
      simp [fin11]
  · have : K = x.length := by omega
    rw [List.drop_of_length_le (by omega), if_neg (fun h => hlt h.1)]
    simp [fin11]

theorem before_right {a b c : (ByteArray × ByteArray × ByteArray × Unit)} (h : twins a b) (hb : g21_0 a c = true) : g21_0 b c = true := by
  rw [before_iff] at *
  rw [← h.1, ← h.2]
  exact hb

theorem srt_join {a b : List (ByteArray × ByteArray × ByteArray × Unit)} {t : (ByteArray × ByteArray × ByteArray × Unit)} (ha : Srt a) (hb : Srt b) (h1 : ∀ y ∈ a, g21_0 y t = true) (h2 : ∀ y ∈ b, g21_0 t y = true) : Srt (a ++ t :: b) := by
  have get : ∀ i, i < (a ++ t :: b).length → (i < a.length ∧ (a ++ t :: b).getD i (ByteArray.empty, ByteArray.empty, ByteArray.empty, ()) = a.getD i (ByteArray.empty, ByteArray.empty, ByteArray.empty, ())) ∨ (i = a.length ∧ (a ++ t :: b).getD i (ByteArray.empty, ByteArray.empty, ByteArray.empty, ()) = t) ∨ (a.length < i ∧ i - a.length - 1 < b.length ∧ (a ++ t :: b).getD i (ByteArray.empty, ByteArray.empty, ByteArray.empty, ()) = b.getD (i - a.length - 1) (ByteArray.empty, ByteArray.empty, ByteArray.empty, ())) := fun i hi => by
    simp only [List.length_append, List.length_cons] at hi
    rw [List.getD_eq_getElem?_getD]
    rcases Nat.lt_trichotomy i a.length with h | h | h
    · left; refine ⟨h, ?_⟩; rw [List.getElem?_append_left h, List.getD_eq_getElem?_getD]
    · right; left; refine ⟨h, ?_⟩; rw [List.getElem?_append_right (by omega), h, Nat.sub_self]; rfl
    · right; right
      obtain ⟨m, hm⟩ : ∃ m, i - a.length = m + 1 := ⟨i - a.length - 1, by omega⟩
      refine ⟨h, by omega, ?_⟩
      rw [List.getElem?_append_right (by omega), hm, List.getElem?_cons_succ, Nat.add_sub_cancel, List.getD_eq_getElem?_getD]
  have mem : ∀ (l : List (ByteArray × ByteArray × ByteArray × Unit)) i, i < l.length → l.getD i (ByteArray.empty, ByteArray.empty, ByteArray.empty, ()) ∈ l := fun l i hi => by rw [getD_lt _ _ _ hi]; exact List.getElem_mem _
  intro i j hij hj
  rcases get i (by omega) with ⟨i1, ei⟩ | ⟨i1, ei⟩ | ⟨i1, i2, ei⟩ <;> rcases get j hj with ⟨j1, ej⟩ | ⟨j1, ej⟩ | ⟨j1, j2, ej⟩ <;> rw [ei, ej]
  · exact ha i j hij j1
  · exact h1 _ (mem a i i1)
  · exact before_trans (h1 _ (mem a i i1)) (h2 _ (mem b _ j2))
  · omega
  · omega
  · exact h2 _ (mem b _ j2)
  · omega
  · omega
  · exact hb _ _ (by omega) j2

theorem srt_take {x : List (ByteArray × ByteArray × ByteArray × Unit)} (h : Srt x) (K : Nat) : Srt (x.take K) := fun i j hij hj => by
  rw [List.length_take] at hj
  have := h i j hij (by omega)
  rw [getD_lt _ _ _ (by omega), getD_lt _ _ _ (by omega)] at this
  rw [getD_lt _ _ _ (by rw [List.length_take]; omega), getD_lt _ _ _ (by rw [List.length_take]; omega), List.getElem_take, List.getElem_take]
  exact this

theorem srt_drop {x : List (ByteArray × ByteArray × ByteArray × Unit)} (h : Srt x) (K : Nat) : Srt (x.drop K) := fun i j hij hj => by
  rw [List.length_drop] at hj
  have := h (K + i) (K + j) (by omega) (by omega)
  rw [getD_lt _ _ _ (by omega), getD_lt _ _ _ (by omega)] at this
  rw [getD_lt _ _ _ (by rw [List.length_drop]; omega), getD_lt _ _ _ (by rw [List.length_drop]; omega), List.getElem_drop, List.getElem_drop]
  exact this

/-- Both put a block alike, and in order it stays. -/
theorem put_eq (x : List (ByteArray × ByteArray × ByteArray × Unit)) (t : (ByteArray × ByteArray × ByteArray × Unit)) (hs : Srt x) : g30_0 x t = g11_0 x t ∧ Srt (g11_0 x t) := by
  obtain ⟨p1, p2, p3⟩ := placeS x t hs
  have e := put_at x t hs _ p1 p2 p3
  have eb : g47_1 x t = true ↔ k63c45 x t < x.length ∧ twins (x.getD (k63c45 x t) (ByteArray.empty, ByteArray.empty, ByteArray.empty, ())) t := by
    unfold g47_1 g63c45_1 f63c45
    by_cases h : k63c45 x t < x.length
    · rw [if_pos h, cmp_eq]; exact ⟨fun hh => ⟨h, hh⟩, fun hh => hh.2⟩
    · rw [if_neg h]; exact ⟨fun hh => (by cases hh), fun hh => absurd hh.1 h⟩
  have e0 : g47_0 x t = ((k63c45 x t : Nat) : Int) := rfl
  generalize k63c45 x t = K at *
  rw [e]
  constructor
  · show (if g47_1 x t = true then x.set (g47_0 x t).toNat t else g48_0 x (g47_0 x t) [t]) = _
    rw [e0]
    by_cases h : K < x.length ∧ twins (x.getD K (ByteArray.empty, ByteArray.empty, ByteArray.empty, ())) t
    · rw [if_pos (eb.2 h), if_pos h, Int.toNat_natCast, List.set_eq_take_append_cons_drop, if_pos h.1]
    · rw [if_neg (fun hh => h (eb.1 hh)), if_neg h]
      unfold g48_0
      rw [Int.toNat_natCast]
      rfl
  · have low : ∀ y ∈ x.take K, g21_0 y t = true := fun y hy => by
      obtain ⟨i, hi, _, rfl⟩ := mem_take_get hy
      exact p2 i hi
    split
    · rename_i h
      refine srt_join (srt_take hs K) (srt_drop hs _) low (fun y hy => ?_)
      obtain ⟨i, hi, hl, rfl⟩ := mem_drop_get hy
      exact before_right h.2 (hs K i (by omega) hl)
    · rename_i h
      refine srt_join (srt_take hs K) (srt_drop hs _) low (fun y hy => ?_)
      obtain ⟨i, hi, hl, rfl⟩ := mem_drop_get hy
      refine before_tri (p3 i hi hl) (fun ht => ?_)
      rcases Nat.lt_or_ge K i with hlt | hge
      · have := before_left ht (hs K i hlt hl)
        rw [p3 K (Nat.le_refl _) (by omega)] at this
        cases this
      · have : i = K := by omega
        subst this
        exact h ⟨hl, ht⟩

end Go.Proofs.YticibijneahllaaDoor

/- A law that says how functions of the program and of the specification hang together. -/
set_option linter.unusedVariables false
set_option linter.unusedSimpArgs false
set_option maxRecDepth 100000
namespace Go.Proofs.YticibijneahllaaDoor
open Go Go.Am Go.Proofs

theorem marked_blk (xs : List (ByteArray × ByteArray × ByteArray × Unit)) (h : xs.length ≤ 1048576) : P7 xs 1 ∧ (u7_0 xs 1).length = xs.length ∧ ¬ g7_0 xs 1 < 0 := by
  have hl : (u7_0 xs 1).length = xs.length := by rw [u7_0, M7_len]
  refine ⟨⟨by omega, by omega⟩, hl, ?_⟩
  unfold g7_0
  omega

theorem marked2_blk (xs ys : List (ByteArray × ByteArray × ByteArray × Unit)) (h : xs.length + ys.length ≤ 1048576) : P7 ys (g7_0 xs 1) ∧ (u7_0 ys (g7_0 xs 1)).length = ys.length ∧ ¬ g7_0 ys (g7_0 xs 1) < 0 := by
  have hl : (u7_0 ys (g7_0 xs 1)).length = ys.length := by rw [u7_0, M7_len]
  refine ⟨⟨?_, ?_⟩, hl, ?_⟩ <;> unfold g7_0 <;> omega

end Go.Proofs.YticibijneahllaaDoor

/- A law that says how functions of the program and of the specification hang together. -/
set_option linter.unusedVariables false
set_option linter.unusedSimpArgs false
set_option maxRecDepth 100000
namespace Go.Proofs.YticibijneahllaaDoor
open Go Go.Am Go.Proofs

theorem held_blk (xs : List (ByteArray × ByteArray × ByteArray × Unit)) (h : xs.length ≤ 1048576) : P8 (u7_0 xs 1) 1 ∧ g8_0 (u7_0 xs 1) 1 = g7_0 xs 1 := by
  have hl : (u7_0 xs 1).length = xs.length := by rw [u7_0, M7_len]
  refine ⟨⟨⟨by omega, by rw [hl]; omega⟩, fun i hi => ?_⟩, ?_⟩
  · rw [hl] at hi
    rw [getD_lt _ _ _ (by rw [hl]; exact hi)]
    simp [u7_0, M7]
  · unfold g8_0 g7_0
    rw [hl]

end Go.Proofs.YticibijneahllaaDoor

/- A law that says how functions of the program and of the specification hang together. -/
set_option linter.unusedVariables false
set_option linter.unusedSimpArgs false
set_option maxRecDepth 100000
namespace Go.Proofs.YticibijneahllaaDoor
open Go Go.Am Go.Proofs

theorem split_lines (x : ByteArray) (h : x.size ≤ 1048576) : P17 x 10 ∧ P22 x (ByteArray.mk #[10]) ∧ g22_0 x (ByteArray.mk #[10]) = g17_0 x 10 ∧ 1 ≤ (g17_0 x 10).length ∧ (g17_0 x 10).length ≤ 1048577 := by
  have e : g22_0 x (ByteArray.mk #[10]) = g17_0 x 10 := splitB_one 10 x
  have hl : (g17_0 x 10).length = x.data.toList.count 10 + 1 := by
    show (bss (splitC (10 : UInt8) x.data.toList)).length = _
    unfold bss
    rw [List.length_map, splitC_length]
  have hc : x.data.toList.count (10 : UInt8) ≤ x.size := List.count_le_length
  exact ⟨⟨by omega, by omega, by omega⟩, ⟨by omega, Nat.le_refl 1⟩, e, by omega, by omega⟩

end Go.Proofs.YticibijneahllaaDoor

/- The plain law of FnExactSalvageBlocks. -/
set_option linter.unusedVariables false
set_option linter.unusedSimpArgs false
set_option maxRecDepth 100000
namespace Go.Proofs.YticibijneahllaaDoor
open Go Go.Am Go.Proofs

theorem parse_one (x : ByteArray) (h : g10_1 x = 0) : g20_0 (g10_0 x) = true := by
  unfold g10_1 at h
  unfold g10_0
  split at h
  · cases h
  · rename_i h1
    rw [if_neg h1]
    split at h
    · cases h
    · rename_i h2
      rw [if_neg h2]
      split at h
      · cases h
      · rename_i h3
        rw [if_neg h3]
        unfold fc10 at h
        unfold fb10
        split at h
        · rename_i h4
          rw [if_pos h4]
          unfold ok10 at h4
          rw [Bool.and_eq_true] at h4
          exact h4.2
        · cases h

theorem allI_mk {α : Type} {q : Nat → α → Bool} : ∀ (l : List α) (i : Nat), (∀ j y, l[j]? = some y → q (i + j) y = true) → allI q i l = true
  | [], _, _ => rfl
  | x :: r, i, h => by
    unfold allI
    rw [Bool.and_eq_true]
    refine ⟨h 0 x rfl, allI_mk r (i + 1) fun j y hy => ?_⟩
    have := h (j + 1) y (by simpa using hy)
    rwa [show i + (j + 1) = i + 1 + j by omega] at this

theorem allI_at {α : Type} {q : Nat → α → Bool} : ∀ (l : List α) (i j : Nat) (y : α), allI q i l = true → l[j]? = some y → q (i + j) y = true
  | [], _, _, _, _, h => by simp at h
  | x :: r, i, 0, y, h, hy => by
    unfold allI at h
    rw [Bool.and_eq_true] at h
    simp at hy
    subst hy
    exact h.1
  | x :: r, i, j + 1, y, h, hy => by
    unfold allI at h
    rw [Bool.and_eq_true] at h
    have := allI_at r (i + 1) j y h.2 (by simpa using hy)
    rwa [show i + 1 + j = i + (j + 1) by omega] at this

theorem ok_mk (x : List (ByteArray × ByteArray × ByteArray × Unit)) (h1 : ∀ y ∈ x, g20_0 y = true) (h2 : Srt x) (h3 : x.length ≤ 32) : l29OkV x = true := by
  unfold l29OkV
  rw [Bool.and_eq_true, decide_eq_true_eq]
  refine ⟨allI_mk x 0 fun j y hy => ?_, h3⟩
  have hlt := (List.getElem?_eq_some_iff.1 hy).1
  unfold okV
  rw [Nat.zero_add, Bool.and_eq_true]
  refine ⟨h1 y (List.mem_of_getElem? hy), ?_⟩
  cases j with
  | zero => rfl
  | succ j =>
    have := h2 j (j + 1) (by omega) hlt
    have e : x.getD (j + 1) (ByteArray.empty, ByteArray.empty, ByteArray.empty, ()) = y := by rw [List.getD_eq_getElem?_getD, hy]; rfl
    rw [e] at this
    rw [Nat.add_sub_cancel, this, Bool.or_true]

theorem ok_mem {x : List (ByteArray × ByteArray × ByteArray × Unit)} (h : l29OkV x = true) : ∀ y ∈ x, g20_0 y = true := fun y hy => by
  unfold l29OkV at h
  rw [Bool.and_eq_true] at h
  obtain ⟨j, hj⟩ := List.getElem?_of_mem hy
  have := allI_at x 0 j y h.1 hj
  unfold okV at this
  rw [Bool.and_eq_true] at this
  exact this.1

theorem ok_srt {x : List (ByteArray × ByteArray × ByteArray × Unit)} (h : l29OkV x = true) : x.length ≤ 32 ∧ Srt x := by
  obtain ⟨hl, hs⟩ := sorted x h
  exact ⟨hl, fun i j hij hj => hs i j hij hj⟩

theorem put_mem {x : List (ByteArray × ByteArray × ByteArray × Unit)} {t y : (ByteArray × ByteArray × ByteArray × Unit)} (hs : Srt x) (hy : y ∈ g11_0 x t) : y = t ∨ y ∈ x := by
  obtain ⟨p1, p2, p3⟩ := placeS x t hs
  rw [put_at x t hs _ p1 p2 p3] at hy
  split at hy
  · rcases List.mem_append.1 hy with hy | hy
    · exact .inr (List.mem_of_mem_take hy)
    · rcases List.mem_cons.1 hy with hy | hy
      · exact .inl hy
      · exact .inr (List.mem_of_mem_drop hy)
  · rcases List.mem_append.1 hy with hy | hy
    · exact .inr (List.mem_of_mem_take hy)
    · rcases List.mem_cons.1 hy with hy | hy
      · exact .inl hy
      · exact .inr (List.mem_of_mem_drop hy)

theorem st_eq (h : List (ByteArray × ByteArray × ByteArray × Unit)) (w : ByteArray) (hv : l29OkV h = true) : st5 h w = st4 h w ∧ l29OkV (st4 h w) = true := by
  obtain ⟨e0, e1⟩ := parse_eq w
  obtain ⟨hl, hs⟩ := ok_srt hv
  unfold st5 st4
  rw [e0, e1]
  by_cases hc : g10_1 w = 0
  · have hone := parse_one w hc
    have hn : ¬ (g10_1 w ≠ 0) := fun hx => hx hc
    rw [if_neg hn, if_neg hn]
    generalize g10_0 w = t at *
    obtain ⟨pe, ps⟩ := put_eq h t hs
    unfold g14_0 g14_1
    rw [blocks_eq, block_eq, hv, hone, pe]
    by_cases h3 : (g11_0 h t).length ≤ 32
    · have h3' : ¬ ((g11_0 h t).length : Int) > 32 := by omega
      rw [if_pos h3]
      refine ⟨by simp [h3'], ok_mk _ (fun y hy => ?_) ps h3⟩
      rcases put_mem hs hy with rfl | hy
      · exact hone
      · exact ok_mem hv y hy
    · have h3' : ((g11_0 h t).length : Int) > 32 := by omega
      rw [if_neg h3]
      exact ⟨by simp [h3'], hv⟩
  · rw [if_pos (show g10_1 w ≠ 0 from hc), if_pos (show g10_1 w ≠ 0 from hc)]
    exact ⟨rfl, hv⟩

theorem fold_eq : ∀ (l : List ByteArray) (h : List (ByteArray × ByteArray × ByteArray × Unit)), l29OkV h = true → l.foldl st5 h = l.foldl st4 h ∧ l29OkV (l.foldl st4 h) = true
  | [], h, hv => ⟨rfl, hv⟩
  | w :: r, h, hv => by
    obtain ⟨e, hv'⟩ := st_eq h w hv
    rw [List.foldl_cons, List.foldl_cons, e]
    exact fold_eq r _ hv'

theorem salvage_eq (x : ByteArray) (h : x.size ≤ 1048576) : P4 x ∧ P5 x ∧ g5_0 x = g4_0 x ∧ (g4_0 x).length ≤ 1048576 := by
  obtain ⟨p1, p2, e, l1, l2⟩ := split_lines x h
  have hsz : ∀ y ∈ g17_0 x 10, y.size ≤ 1048576 := fun y hy => by
    rw [← e] at hy
    exact Nat.le_trans (splitB_part _ _ _ _ y hy) h
  have hL : ls5 x = ls4 x := by
    unfold ls5 ls4 g12_0 g9_0; rw [e]
  have hlen : (ls4 x).length ≤ 1048577 := by
    unfold ls4 g9_0
    rw [List.length_drop, List.length_take]; omega
  have hP1 : P9 x := by
    unfold P9
    generalize g17_0 x 10 = L at *
    exact ⟨p1, by rw [i64_iff]; omega, by omega, by omega, by omega, by omega, trivial⟩
  have hP2 : P12 x := by
    unfold P12
    rw [e]
    generalize g17_0 x 10 = L at *
    exact ⟨p2, by rw [i64_iff]; omega, by omega, by omega, by omega, by omega, trivial⟩
  have hmem : ∀ y ∈ ls4 x, y.size ≤ 1048576 := fun y hy => by
    unfold ls4 g9_0 at hy
    exact hsz y (List.mem_of_mem_take (List.mem_of_mem_drop hy))
  have hnil : l29OkV ([] : List (ByteArray × ByteArray × ByteArray × Unit)) = true := rfl
  obtain ⟨f1, f2⟩ := fold_eq ((ls4 x).drop 1) [] hnil
  refine ⟨⟨hP1, hlen⟩, ⟨hP2, by rw [hL]; exact hlen, fun w hw => parse_pre w (hmem w (by rw [← hL]; exact hw))⟩, ?_, ?_⟩
  · unfold g5_0 g4_0
    rw [hL]; exact f1
  · have := (ok_srt f2).1
    show (((ls4 x).drop 1).foldl st4 []).length ≤ _
    omega

theorem law3 (x : ByteArray) (hw : Wf .str x) : P3 x ∧ g3_0 x = true := by
  unfold P3 g3_0
  by_cases h : (x.size : Int) > 1048576
  · simp only [h, decide_true, if_true, and_self]
  · obtain ⟨q2, q1, e0, hl⟩ := salvage_eq x (by omega)
    obtain ⟨c1, c2, c3⟩ := marked_blk (g4_0 x) hl
    obtain ⟨d1, d2⟩ := held_blk (g4_0 x) hl
    simp only [h, decide_false, Bool.false_eq_true, if_false, e0, q1, q2, g6_0, decide_true, Bool.not_true, bne_self_eq_false, beq_self_eq_true, c1, c2, c3, d1, d2, true_and, and_self]

end Go.Proofs.YticibijneahllaaDoor
