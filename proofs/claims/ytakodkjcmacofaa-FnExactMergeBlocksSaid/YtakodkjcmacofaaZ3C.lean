/- Several texts in one: the functions that this law reaches, and their laws. -/
import Derived.Test.YtakodkjcmacofaaZ3A
import Derived.Test.YtakodkjcmacofaaZ3B
import Derived.Shelf.Strings.Search1
import Derived.Shelf.Strings.Search2
import Derived.Shelf.Strings.Search3
import Derived.Shelf.LaysM
import Derived.Shelf.Strings.Shaped
import Derived.Lib.SliceRun
import Derived.Laws.AppendOwn
import Derived.WalkKit
import Derived.Deep.LoopGhost
import Derived.Lib.Walk
import Derived.Shelf.RegionOpenPlain
import Derived.Deep.RegionLaw
import Derived.Deep.AppendSrc
import Derived.Lib.JoinLaws
import Derived.Lib.AppendZeros
import Derived.Lib.AppendZerosOnto
import Derived.Lib.Overlaps
import Derived.Laws.Externs
import Derived.Laws.IdiomCopy

/- Function 20 (laws.szBlock): its runs between cut points. Written by a program of this repo (gen). -/
set_option linter.unusedVariables false
set_option linter.unusedSimpArgs false
set_option maxRecDepth 100000
namespace Go.Proofs.Ytakodkjcmacofaa
open Go Go.Am Go.Proofs
def ext20 : Ext := []
theorem ext20Ok : ExtOk Try.prog ext20 := trivial
/-! Function 20. -/
noncomputable def b20 : Code := bodyOf Try.f20
theorem hb20 : Try.f20.body = some b20 := by kernel_rfl
def sig20 : List AT := [AT.v (Ty.cons Ty.str (Ty.cons Ty.str (Ty.cons Ty.str Ty.unit))), AT.v (Ty.int IntKind.i64)]
def tys20 : List Ty := [Ty.int IntKind.i64]
def P20 (x0 : ByteArray × ByteArray × ByteArray × Unit) (x1 : Int) : Prop := ((InR IntKind.i64 (x1 - (↑(ByteArray.size (Prod.fst x0)) : Int))) ∧ (if (Decidable.decide (x1 - (↑(ByteArray.size (Prod.fst x0)) : Int) < 0)) = true then True else ((InR IntKind.i64 (x1 - (↑(ByteArray.size (Prod.fst x0)) : Int) - (↑(ByteArray.size (Prod.fst (Prod.snd x0))) : Int))) ∧ (if (Decidable.decide (x1 - (↑(ByteArray.size (Prod.fst x0)) : Int) - (↑(ByteArray.size (Prod.fst (Prod.snd x0))) : Int) < 0)) = true then True else ((InR IntKind.i64 (x1 - (↑(ByteArray.size (Prod.fst x0)) : Int) - (↑(ByteArray.size (Prod.fst (Prod.snd x0))) : Int) - (↑(ByteArray.size (Prod.fst (Prod.snd (Prod.snd x0)))) : Int))) ∧ True)))))
def g20_0 (x0 : ByteArray × ByteArray × ByteArray × Unit) (x1 : Int) : Int := (if (Decidable.decide (x1 - (↑(ByteArray.size (Prod.fst x0)) : Int) < 0)) = true then -1 else (if (Decidable.decide (x1 - (↑(ByteArray.size (Prod.fst x0)) : Int) - (↑(ByteArray.size (Prod.fst (Prod.snd x0))) : Int) < 0)) = true then -1 else (if (Decidable.decide (x1 - (↑(ByteArray.size (Prod.fst x0)) : Int) - (↑(ByteArray.size (Prod.fst (Prod.snd x0))) : Int) - (↑(ByteArray.size (Prod.fst (Prod.snd (Prod.snd x0)))) : Int) < 0)) = true then -1 else x1 - (↑(ByteArray.size (Prod.fst x0)) : Int) - (↑(ByteArray.size (Prod.fst (Prod.snd x0))) : Int) - (↑(ByteArray.size (Prod.fst (Prod.snd (Prod.snd x0)))) : Int))))
theorem p20_0 (x0 : ByteArray × ByteArray × ByteArray × Unit) (x1 : Int) : runF tab ext20 false 27 [] 2000 [] tys20 Try.f20.results [true] [.code b20] (entE 0 0 sig20 (x0, x1, ())) (entL sig20 (x0, x1, ())) = some ([Dyn.mk (Ty.int IntKind.i64) (-1)], [], [InR IntKind.i64 (x1 - (↑(ByteArray.size (Prod.fst x0)) : Int)), Decidable.decide (x1 - (↑(ByteArray.size (Prod.fst x0)) : Int) < 0) = Bool.true]) := by kernel_rfl
theorem p20_1 (x0 : ByteArray × ByteArray × ByteArray × Unit) (x1 : Int) : runF tab ext20 false 27 [] 2000 [] tys20 Try.f20.results [false, true] [.code b20] (entE 0 0 sig20 (x0, x1, ())) (entL sig20 (x0, x1, ())) = some ([Dyn.mk (Ty.int IntKind.i64) (-1)], [], [InR IntKind.i64 (x1 - (↑(ByteArray.size (Prod.fst x0)) : Int)), Decidable.decide (x1 - (↑(ByteArray.size (Prod.fst x0)) : Int) < 0) = Bool.false, InR IntKind.i64 (x1 - (↑(ByteArray.size (Prod.fst x0)) : Int) - (↑(ByteArray.size (Prod.fst (Prod.snd x0))) : Int)), Decidable.decide (x1 - (↑(ByteArray.size (Prod.fst x0)) : Int) - (↑(ByteArray.size (Prod.fst (Prod.snd x0))) : Int) < 0) = Bool.true]) := by kernel_rfl
theorem p20_2 (x0 : ByteArray × ByteArray × ByteArray × Unit) (x1 : Int) : runF tab ext20 false 27 [] 2000 [] tys20 Try.f20.results [false, false, true] [.code b20] (entE 0 0 sig20 (x0, x1, ())) (entL sig20 (x0, x1, ())) = some ([Dyn.mk (Ty.int IntKind.i64) (-1)], [], [InR IntKind.i64 (x1 - (↑(ByteArray.size (Prod.fst x0)) : Int)), Decidable.decide (x1 - (↑(ByteArray.size (Prod.fst x0)) : Int) < 0) = Bool.false, InR IntKind.i64 (x1 - (↑(ByteArray.size (Prod.fst x0)) : Int) - (↑(ByteArray.size (Prod.fst (Prod.snd x0))) : Int)), Decidable.decide (x1 - (↑(ByteArray.size (Prod.fst x0)) : Int) - (↑(ByteArray.size (Prod.fst (Prod.snd x0))) : Int) < 0) = Bool.false, InR IntKind.i64 (x1 - (↑(ByteArray.size (Prod.fst x0)) : Int) - (↑(ByteArray.size (Prod.fst (Prod.snd x0))) : Int) - (↑(ByteArray.size (Prod.fst (Prod.snd (Prod.snd x0)))) : Int)), Decidable.decide (x1 - (↑(ByteArray.size (Prod.fst x0)) : Int) - (↑(ByteArray.size (Prod.fst (Prod.snd x0))) : Int) - (↑(ByteArray.size (Prod.fst (Prod.snd (Prod.snd x0)))) : Int) < 0) = Bool.true]) := by kernel_rfl
theorem p20_3 (x0 : ByteArray × ByteArray × ByteArray × Unit) (x1 : Int) : runF tab ext20 false 27 [] 2000 [] tys20 Try.f20.results [false, false, false] [.code b20] (entE 0 0 sig20 (x0, x1, ())) (entL sig20 (x0, x1, ())) = some ([Dyn.mk (Ty.int IntKind.i64) (x1 - (↑(ByteArray.size (Prod.fst x0)) : Int) - (↑(ByteArray.size (Prod.fst (Prod.snd x0))) : Int) - (↑(ByteArray.size (Prod.fst (Prod.snd (Prod.snd x0)))) : Int))], [], [InR IntKind.i64 (x1 - (↑(ByteArray.size (Prod.fst x0)) : Int)), Decidable.decide (x1 - (↑(ByteArray.size (Prod.fst x0)) : Int) < 0) = Bool.false, InR IntKind.i64 (x1 - (↑(ByteArray.size (Prod.fst x0)) : Int) - (↑(ByteArray.size (Prod.fst (Prod.snd x0))) : Int)), Decidable.decide (x1 - (↑(ByteArray.size (Prod.fst x0)) : Int) - (↑(ByteArray.size (Prod.fst (Prod.snd x0))) : Int) < 0) = Bool.false, InR IntKind.i64 (x1 - (↑(ByteArray.size (Prod.fst x0)) : Int) - (↑(ByteArray.size (Prod.fst (Prod.snd x0))) : Int) - (↑(ByteArray.size (Prod.fst (Prod.snd (Prod.snd x0)))) : Int)), Decidable.decide (x1 - (↑(ByteArray.size (Prod.fst x0)) : Int) - (↑(ByteArray.size (Prod.fst (Prod.snd x0))) : Int) - (↑(ByteArray.size (Prod.fst (Prod.snd (Prod.snd x0)))) : Int) < 0) = Bool.false]) := by kernel_rfl
theorem at20 (x0 : ByteArray × ByteArray × ByteArray × Unit) (x1 : Int) (h : P20 x0 x1) (w0 : World) (O : List Nat) (q : Nat → Value) : AtV Try.prog 20 (PostR [⟨Ty.int IntKind.i64, g20_0 x0 x1⟩] [] [] q w0 O) 27 w0 O q [] [.code b20] (entE 0 0 sig20 (x0, x1, ())) (entL sig20 (x0, x1, ())) := by
  unfold P20 at h
  unfold g20_0
  obtain ⟨s0, h⟩ := h
  by_cases b0 : (Decidable.decide (x1 - (↑(ByteArray.size (Prod.fst x0)) : Int) < 0)) = true
  · try simp only [if_pos b0] at h ⊢
    exact AtV.fin Try.func20 tabOk ext20Ok mixed (p20_0 x0 x1) ⟨s0, b0, trivial⟩
  · try simp only [if_neg b0] at h ⊢
    replace b0 := Bool.eq_false_iff.2 b0
    obtain ⟨s1, h⟩ := h
    by_cases b1 : (Decidable.decide (x1 - (↑(ByteArray.size (Prod.fst x0)) : Int) - (↑(ByteArray.size (Prod.fst (Prod.snd x0))) : Int) < 0)) = true
    · try simp only [if_pos b1] at h ⊢
      exact AtV.fin Try.func20 tabOk ext20Ok mixed (p20_1 x0 x1) ⟨s0, b0, s1, b1, trivial⟩
    · try simp only [if_neg b1] at h ⊢
      replace b1 := Bool.eq_false_iff.2 b1
      obtain ⟨s2, h⟩ := h
      by_cases b2 : (Decidable.decide (x1 - (↑(ByteArray.size (Prod.fst x0)) : Int) - (↑(ByteArray.size (Prod.fst (Prod.snd x0))) : Int) - (↑(ByteArray.size (Prod.fst (Prod.snd (Prod.snd x0)))) : Int) < 0)) = true
      · try simp only [if_pos b2] at h ⊢
        exact AtV.fin Try.func20 tabOk ext20Ok mixed (p20_2 x0 x1) ⟨s0, b0, s1, b1, s2, b2, trivial⟩
      · try simp only [if_neg b2] at h ⊢
        replace b2 := Bool.eq_false_iff.2 b2
        exact AtV.fin Try.func20 tabOk ext20Ok mixed (p20_3 x0 x1) ⟨s0, b0, s1, b1, s2, b2, trivial⟩

def S20 : Am.Spec := { sig := sig20, pre := fun ⟨x0, x1, _⟩ => P20 x0 x1, res := fun ⟨x0, x1, _⟩ => [⟨Ty.int IntKind.i64, g20_0 x0 x1⟩] }
theorem con20 : Contract Try.prog 20 S20 := contract_of Try.func20 hb20 (Nat.le_of_ble_eq_true (by kernel_rfl)) (fun ⟨x0, x1, _⟩ h _ w0 O q => at20 x0 x1 h w0 O q)


theorem sz20 (x0 : ByteArray × ByteArray × ByteArray × Unit) (x1 : Int) (h : 0 ≤ x1) (hi : InR .i64 x1) (hw : Wf (.cons .str (.cons .str (.cons .str .unit))) x0) :
    P20 x0 x1 ∧ -1 ≤ g20_0 x0 x1 ∧ g20_0 x0 x1 ≤ x1 := by
  have h1 : x0.1.size ≤ 9223372036854775807 := hw.1
  have h2 : x0.2.1.size ≤ 9223372036854775807 := hw.2.1
  have h3 : x0.2.2.1.size ≤ 9223372036854775807 := hw.2.2.1
  rw [i64_iff] at hi
  unfold P20 g20_0
  simp only [decide_eq_true_eq, i64_iff]
  repeat' (first | apply And.intro | split)
  all_goals first | trivial | omega

end Go.Proofs.Ytakodkjcmacofaa

/- Function 5 (laws.szBlockS): its runs between cut points. Written by a program of this repo (gen). -/
set_option linter.unusedVariables false
set_option linter.unusedSimpArgs false
set_option maxRecDepth 100000
namespace Go.Proofs.Ytakodkjcmacofaa
open Go Go.Am Go.Proofs
def ext5 : Ext := [(20, S20)]
theorem call5_20 : Callable Try.prog 20 := ⟨Try.f20, Try.func20, by kernel_rfl, by kernel_rfl⟩
theorem ext5Ok : ExtOk Try.prog ext5 := ⟨⟨call5_20, con20⟩, trivial⟩
/-! Function 5. -/
noncomputable def b5 : Code := bodyOf Try.f5
theorem hb5 : Try.f5.body = some b5 := by kernel_rfl
def sig5 : List AT := [AT.v (Ty.sl (Ty.cons Ty.str (Ty.cons Ty.str (Ty.cons Ty.str Ty.unit)))), AT.v (Ty.int IntKind.i64)]
def tys5 : List Ty := [Ty.int IntKind.i64]
def E5_5 (v1 : Int) (v5 : Int) (x0 : List (ByteArray × ByteArray × ByteArray × Unit)) : Env := [(0, PV.a (Atom.sl (Ty.cons Ty.str (Ty.cons Ty.str (Ty.cons Ty.str Ty.unit))) x0)), (1, PV.a (Atom.val (Value.int IntKind.i64 v1))), (5, PV.a (Atom.val (Value.int IntKind.i64 v5)))]
def L5_5 (v1 : Int) (v5 : Int) (x0 : List (ByteArray × ByteArray × ByteArray × Unit)) : Heap := []
mutual
def R5 : Nat → List (ByteArray × ByteArray × ByteArray × Unit) → Int → List Dyn → Prop
  | 0, _, _, _ => False
  | n + 1, x0, x1, ds => ((InR IntKind.i64 (x1 - (↑(List.length x0) : Int))) ∧ (if (Decidable.decide (x1 - (↑(List.length x0) : Int) < 0)) = true then (ds = [Dyn.mk (Ty.int IntKind.i64) (-1)]) else (R5_5 n (x1 - (↑(List.length x0) : Int)) (0) (x0) ds)))
def R5_5 : Nat → Int → Int → List (ByteArray × ByteArray × ByteArray × Unit) → List Dyn → Prop
  | 0, _, _, _, _ => False
  | n + 1, v1, v5, x0, ds => (if (Decidable.decide (v5 < (↑(List.length x0) : Int))) = true then ((0 ≤ v5) ∧ (v5 < (↑(List.length x0) : Int)) ∧ ((P20 (List.getD x0 (Int.toNat v5) (ByteArray.empty, ByteArray.empty, ByteArray.empty, ())) v1) ∧ (if (Decidable.decide (g20_0 (List.getD x0 (Int.toNat v5) (ByteArray.empty, ByteArray.empty, ByteArray.empty, ())) v1 < 0)) = true then (ds = [Dyn.mk (Ty.int IntKind.i64) (-1)]) else ((InR IntKind.i64 (v5 + 1)) ∧ (R5_5 n (g20_0 (List.getD x0 (Int.toNat v5) (ByteArray.empty, ByteArray.empty, ByteArray.empty, ())) v1) (v5 + 1) (x0) ds))))) else (ds = [Dyn.mk (Ty.int IntKind.i64) v1]))
end
theorem p5_0 (x0 : List (ByteArray × ByteArray × ByteArray × Unit)) (x1 : Int) : runF tab ext5 false 27 [] 2000 [] tys5 Try.f5.results [true] [.code b5] (entE 0 0 sig5 (x0, x1, ())) (entL sig5 (x0, x1, ())) = some ([Dyn.mk (Ty.int IntKind.i64) (-1)], [], [InR IntKind.i64 (x1 - (↑(List.length x0) : Int)), Decidable.decide (x1 - (↑(List.length x0) : Int) < 0) = Bool.true]) := by kernel_rfl
theorem p5_1 (x0 : List (ByteArray × ByteArray × ByteArray × Unit)) (x1 : Int) : Am.runN tab ext5 false 27 [] 2000 [] [] [0, 1, 5] [] [false] [.code b5] (entE 0 0 sig5 (x0, x1, ())) (entL sig5 (x0, x1, ())) = some (cutAt b5 5, E5_5 (x1 - (↑(List.length x0) : Int)) (0) (x0), L5_5 (x1 - (↑(List.length x0) : Int)) (0) (x0), [InR IntKind.i64 (x1 - (↑(List.length x0) : Int)), Decidable.decide (x1 - (↑(List.length x0) : Int) < 0) = Bool.false]) := by kernel_rfl
theorem p5_2 (v1 : Int) (v5 : Int) (x0 : List (ByteArray × ByteArray × ByteArray × Unit)) : runF tab ext5 false 27 [] 2000 [] tys5 Try.f5.results [true, true] (cutAt b5 5) (E5_5 v1 v5 x0) (L5_5 v1 v5 x0) = some ([Dyn.mk (Ty.int IntKind.i64) (-1)], [], [Decidable.decide (v5 < (↑(List.length x0) : Int)) = Bool.true, 0 ≤ v5, v5 < (↑(List.length x0) : Int), P20 (List.getD x0 (Int.toNat v5) (ByteArray.empty, ByteArray.empty, ByteArray.empty, ())) v1, Decidable.decide (g20_0 (List.getD x0 (Int.toNat v5) (ByteArray.empty, ByteArray.empty, ByteArray.empty, ())) v1 < 0) = Bool.true]) := by kernel_rfl
theorem p5_3 (v1 : Int) (v5 : Int) (x0 : List (ByteArray × ByteArray × ByteArray × Unit)) : Am.runN tab ext5 false 27 [] 2000 [] [] [0, 1, 5] [] [true, false] (cutAt b5 5) (E5_5 v1 v5 x0) (L5_5 v1 v5 x0) = some (cutAt b5 5, E5_5 (g20_0 (List.getD x0 (Int.toNat v5) (ByteArray.empty, ByteArray.empty, ByteArray.empty, ())) v1) (v5 + 1) (x0), L5_5 (g20_0 (List.getD x0 (Int.toNat v5) (ByteArray.empty, ByteArray.empty, ByteArray.empty, ())) v1) (v5 + 1) (x0), [Decidable.decide (v5 < (↑(List.length x0) : Int)) = Bool.true, 0 ≤ v5, v5 < (↑(List.length x0) : Int), P20 (List.getD x0 (Int.toNat v5) (ByteArray.empty, ByteArray.empty, ByteArray.empty, ())) v1, Decidable.decide (g20_0 (List.getD x0 (Int.toNat v5) (ByteArray.empty, ByteArray.empty, ByteArray.empty, ())) v1 < 0) = Bool.false, InR IntKind.i64 (v5 + 1)]) := by kernel_rfl
theorem p5_4 (v1 : Int) (v5 : Int) (x0 : List (ByteArray × ByteArray × ByteArray × Unit)) : runF tab ext5 false 27 [] 2000 [] tys5 Try.f5.results [false] (cutAt b5 5) (E5_5 v1 v5 x0) (L5_5 v1 v5 x0) = some ([Dyn.mk (Ty.int IntKind.i64) v1], [], [Decidable.decide (v5 < (↑(List.length x0) : Int)) = Bool.false]) := by kernel_rfl
theorem snd5 : ∀ n, (∀ (x0 : List (ByteArray × ByteArray × ByteArray × Unit)) (x1 : Int) ds, R5 n x0 x1 ds → ∀ w0 O q, AtV Try.prog 5 (PostR ds [] [] q w0 O) 27 w0 O q [] [.code b5] (entE 0 0 sig5 (x0, x1, ())) (entL sig5 (x0, x1, ()))) ∧ (∀ (v1 : Int) (v5 : Int) (x0 : List (ByteArray × ByteArray × ByteArray × Unit)) ds, R5_5 n v1 v5 x0 ds → ∀ w0 O q, AtV Try.prog 5 (PostR ds [] [] q w0 O) 27 w0 O q [] (cutAt b5 5) (E5_5 v1 v5 x0) (L5_5 v1 v5 x0)) := by
  intro n
  induction n with
  | zero => exact ⟨fun _ _ _ h => by simp only [R5] at h, fun _ _ _ _ h => by simp only [R5_5] at h⟩
  | succ n ih =>
  obtain ⟨ih, ih5⟩ := ih
  refine ⟨?_, ?_⟩
  · intro x0 x1 ds h w0 O q
    rw [R5] at h
    obtain ⟨s0, h⟩ := h
    by_cases b0 : (Decidable.decide (x1 - (↑(List.length x0) : Int) < 0)) = true
    · rw [if_pos b0] at h
      subst h
      exact AtV.fin Try.func5 tabOk ext5Ok mixed (p5_0 x0 x1) ⟨s0, b0, trivial⟩
    · rw [if_neg b0] at h
      replace b0 := Bool.eq_false_iff.2 b0
      exact AtV.runN tabOk ext5Ok mixed (p5_1 x0 x1) ⟨s0, b0, trivial⟩ (ih5 _ _ _ _ h w0 O q)

  · intro v1 v5 x0 ds h w0 O q
    rw [R5_5] at h
    by_cases b0 : (Decidable.decide (v5 < (↑(List.length x0) : Int))) = true
    · rw [if_pos b0] at h
      obtain ⟨s0, s1, h⟩ := h
      obtain ⟨s2, h⟩ := h
      by_cases b1 : (Decidable.decide (g20_0 (List.getD x0 (Int.toNat v5) (ByteArray.empty, ByteArray.empty, ByteArray.empty, ())) v1 < 0)) = true
      · rw [if_pos b1] at h
        subst h
        exact AtV.fin Try.func5 tabOk ext5Ok mixed (p5_2 v1 v5 x0) ⟨b0, s0, s1, s2, b1, trivial⟩
      · rw [if_neg b1] at h
        replace b1 := Bool.eq_false_iff.2 b1
        obtain ⟨s3, h⟩ := h
        exact AtV.runN tabOk ext5Ok mixed (p5_3 v1 v5 x0) ⟨b0, s0, s1, s2, b1, s3, trivial⟩ (ih5 _ _ _ _ h w0 O q)
    · rw [if_neg b0] at h
      replace b0 := Bool.eq_false_iff.2 b0
      subst h
      exact AtV.fin Try.func5 tabOk ext5Ok mixed (p5_4 v1 v5 x0) ⟨b0, trivial⟩



def szL5 : List (ByteArray × ByteArray × ByteArray × Unit) → Int → Int
  | [], l => l
  | x :: r, l => if g20_0 x l < 0 then -1 else szL5 r (g20_0 x l)

theorem szL5_ok : ∀ (x0 : List (ByteArray × ByteArray × ByteArray × Unit)) (l : Int), 0 ≤ l → InR .i64 l → (∀ x ∈ x0, Wf (.cons .str (.cons .str (.cons .str .unit))) x) → szL5 x0 l ≤ l
  | [], l, _, _, _ => Int.le_refl _
  | x :: r, l, h, hi, hw => by
    obtain ⟨_, h2, h3⟩ := sz20 x l h hi (hw x (List.mem_cons_self ..))
    simp only [szL5]
    rw [i64_iff] at hi
    split
    · omega
    · have := szL5_ok r (g20_0 x l) (by omega) (by rw [i64_iff]; omega) (fun y hy => hw y (List.mem_cons_of_mem _ hy))
      omega

theorem run5 (x0 : List (ByteArray × ByteArray × ByteArray × Unit)) (hm : x0.length ≤ maxLen) (hw : ∀ x ∈ x0, Wf (.cons .str (.cons .str (.cons .str .unit))) x) : ∀ (k i : Nat) (l : Int), i + k = x0.length → 0 ≤ l → InR .i64 l →
    R5_5 (k + 1) l (i : Int) x0 [⟨.int .i64, szL5 (x0.drop i) l⟩] := by
  intro k
  induction k with
  | zero =>
    intro i l hi _ _
    rw [R5_5, if_neg (by simp; omega), drop_end x0 i (by omega)]
    rfl
  | succ k ih =>
    intro i l hi h0 hl
    rw [R5_5, if_pos (by simp; omega)]
    simp only [Int.toNat_natCast]
    have hmem : x0.getD i (ByteArray.empty, ByteArray.empty, ByteArray.empty, ()) ∈ x0 := by rw [getD_lt _ _ _ (by omega)]; exact List.getElem_mem _
    obtain ⟨h1, h2, h3⟩ := sz20 _ l h0 hl (hw _ hmem)
    refine ⟨by omega, by omega, h1, ?_⟩
    rw [drop_get x0 i (ByteArray.empty, ByteArray.empty, ByteArray.empty, ()) (by omega)]
    simp only [szL5]
    have hl' := hl
    rw [i64_iff] at hl'
    by_cases hn : g20_0 (x0.getD i (ByteArray.empty, ByteArray.empty, ByteArray.empty, ())) l < 0
    · rw [if_pos (by simpa using hn), if_pos hn]
    · rw [if_neg (by simpa using hn), if_neg hn]
      exact ⟨inR_up hm (by omega), ih (i + 1) _ (by omega) (by omega) (by rw [i64_iff]; omega)⟩

def g5_0 (x0 : List (ByteArray × ByteArray × ByteArray × Unit)) (x1 : Int) : Int := if x1 - x0.length < 0 then -1 else szL5 x0 (x1 - x0.length)
def P5 (x0 : List (ByteArray × ByteArray × ByteArray × Unit)) (x1 : Int) : Prop := 0 ≤ x1

theorem g5_le (x0 : List (ByteArray × ByteArray × ByteArray × Unit)) (x1 : Int) (h : 0 ≤ x1) (hi : InR .i64 x1) (hw : Wf (.sl (.cons .str (.cons .str (.cons .str .unit)))) x0) (hg : ¬ g5_0 x0 x1 < 0) : g5_0 x0 x1 ≤ x1 - x0.length := by
  unfold g5_0 at hg ⊢
  rw [i64_iff] at hi
  split
  · rename_i h1
    rw [if_pos h1] at hg
    omega
  · exact szL5_ok x0 _ (by omega) (by rw [i64_iff]; omega) hw.2

theorem top5 (x0 : List (ByteArray × ByteArray × ByteArray × Unit)) (x1 : Int) (hw : Wf (.sl (.cons .str (.cons .str (.cons .str .unit)))) x0) (hi : InR .i64 x1) (h : 0 ≤ x1) : R5 (x0.length + 1 + 1) x0 x1 [⟨Ty.int .i64, g5_0 x0 x1⟩] := by
  have hm : x0.length ≤ maxLen := hw.1
  have hm' : x0.length ≤ 9223372036854775807 := hm
  rw [i64_iff] at hi
  rw [R5]
  refine ⟨by rw [i64_iff]; omega, ?_⟩
  unfold g5_0
  by_cases hn : x1 - (x0.length : Int) < 0
  · rw [if_pos (by simpa using hn), if_pos hn]
  · rw [if_neg (by simpa using hn), if_neg hn]
    have := run5 x0 hm hw.2 x0.length 0 (x1 - x0.length) (by omega) (by omega) (by rw [i64_iff]; omega)
    simpa using this

def S5 : Am.Spec := { sig := sig5, pre := fun ⟨x0, x1, _⟩ => P5 x0 x1, res := fun ⟨x0, x1, _⟩ => [⟨Ty.int .i64, g5_0 x0 x1⟩] }
theorem con5 : Contract Try.prog 5 S5 := contract_of Try.func5 hb5 (Nat.le_of_ble_eq_true (by kernel_rfl)) (fun ⟨x0, x1, _⟩ h hwf w0 O q =>
  (snd5 _).1 x0 x1 _ (top5 x0 x1 hwf.1 hwf.2.1 h) w0 O q)

end Go.Proofs.Ytakodkjcmacofaa

/- Function 23 (laws.toBlock): its runs between cut points. Written by a program of this repo (gen). -/
set_option linter.unusedVariables false
set_option linter.unusedSimpArgs false
set_option maxRecDepth 100000
namespace Go.Proofs.Ytakodkjcmacofaa
open Go Go.Am Go.Proofs
def ext23 : Ext := []
theorem ext23Ok : ExtOk Try.prog ext23 := trivial
/-! Function 23. -/
noncomputable def b23 : Code := bodyOf Try.f23
theorem hb23 : Try.f23.body = some b23 := by kernel_rfl
def sig23 : List AT := [AT.v (Ty.cons Ty.str (Ty.cons Ty.str (Ty.cons Ty.str Ty.unit)))]
def tys23 : List Ty := [Ty.cons Ty.str (Ty.cons Ty.str (Ty.cons Ty.str Ty.unit))]
def P23 (x0 : ByteArray × ByteArray × ByteArray × Unit) : Prop := True
def g23_0 (x0 : ByteArray × ByteArray × ByteArray × Unit) : ByteArray × ByteArray × ByteArray × Unit := (Prod.fst x0, Prod.fst (Prod.snd x0), Prod.fst (Prod.snd (Prod.snd x0)), ())
theorem p23_0 (x0 : ByteArray × ByteArray × ByteArray × Unit) : runF tab ext23 false 14 [] 2000 [] tys23 Try.f23.results [] [.code b23] (entE 0 0 sig23 (x0, ())) (entL sig23 (x0, ())) = some ([Dyn.mk (Ty.cons Ty.str (Ty.cons Ty.str (Ty.cons Ty.str Ty.unit))) (Prod.fst x0, Prod.fst (Prod.snd x0), Prod.fst (Prod.snd (Prod.snd x0)), ())], [], []) := by kernel_rfl
theorem at23 (x0 : ByteArray × ByteArray × ByteArray × Unit) (h : P23 x0) (w0 : World) (O : List Nat) (q : Nat → Value) : AtV Try.prog 23 (PostR [⟨Ty.cons Ty.str (Ty.cons Ty.str (Ty.cons Ty.str Ty.unit)), g23_0 x0⟩] [] [] q w0 O) 14 w0 O q [] [.code b23] (entE 0 0 sig23 (x0, ())) (entL sig23 (x0, ())) := by
  unfold P23 at h
  unfold g23_0
  exact AtV.fin Try.func23 tabOk ext23Ok mixed (p23_0 x0) trivial

def S23 : Am.Spec := { sig := sig23, pre := fun ⟨x0, _⟩ => P23 x0, res := fun ⟨x0, _⟩ => [⟨Ty.cons Ty.str (Ty.cons Ty.str (Ty.cons Ty.str Ty.unit)), g23_0 x0⟩] }
theorem con23 : Contract Try.prog 23 S23 := contract_of Try.func23 hb23 (Nat.le_of_ble_eq_true (by kernel_rfl)) (fun ⟨x0, _⟩ h _ w0 O q => at23 x0 h w0 O q)


end Go.Proofs.Ytakodkjcmacofaa

/- Function 7 (laws.toBlockS): its runs between cut points. Written by a program of this repo (gen). -/
set_option linter.unusedVariables false
set_option linter.unusedSimpArgs false
set_option maxRecDepth 100000
namespace Go.Proofs.Ytakodkjcmacofaa
open Go Go.Am Go.Proofs
def ext7 : Ext := [(23, S23)]
theorem call7_23 : Callable Try.prog 23 := ⟨Try.f23, Try.func23, by kernel_rfl, by kernel_rfl⟩
theorem ext7Ok : ExtOk Try.prog ext7 := ⟨⟨call7_23, con23⟩, trivial⟩
/-! Function 7. -/
noncomputable def b7 : Code := bodyOf Try.f7
theorem hb7 : Try.f7.body = some b7 := by kernel_rfl
def sig7 : List AT := [AT.v (Ty.sl (Ty.cons Ty.str (Ty.cons Ty.str (Ty.cons Ty.str Ty.unit))))]
def tys7 : List Ty := [Ty.sl (Ty.cons Ty.str (Ty.cons Ty.str (Ty.cons Ty.str Ty.unit)))]
def E7_3 (v4 : Int) (h0 : List (ByteArray × ByteArray × ByteArray × Unit)) (x0 : List (ByteArray × ByteArray × ByteArray × Unit)) : Env := [(0, PV.a (Atom.sl (Ty.cons Ty.str (Ty.cons Ty.str (Ty.cons Ty.str Ty.unit))) x0)), (3, PV.a (Atom.osl 0 Option.none)), (4, PV.a (Atom.val (Value.int IntKind.i64 v4)))]
def L7_3 (v4 : Int) (h0 : List (ByteArray × ByteArray × ByteArray × Unit)) (x0 : List (ByteArray × ByteArray × ByteArray × Unit)) : Heap := [Option.some (Arr.mk (Ty.cons Ty.str (Ty.cons Ty.str (Ty.cons Ty.str Ty.unit))) h0 Bool.false)]
mutual
def R7 : Nat → List (ByteArray × ByteArray × ByteArray × Unit) → List Dyn → Prop
  | 0, _, _ => False
  | n + 1, x0, ds => ((0 ≤ (↑(List.length x0) : Int)) ∧ ((↑(List.length x0) : Int) ≤ (↑(List.length x0) : Int)) ∧ (48 * (↑(List.length x0) : Int) ≤ 281474976710656) ∧ (R7_3 n (0) (List.replicate (Int.toNat (↑(List.length x0) : Int)) (ByteArray.empty, ByteArray.empty, ByteArray.empty, ())) (x0) ds))
def R7_3 : Nat → Int → List (ByteArray × ByteArray × ByteArray × Unit) → List (ByteArray × ByteArray × ByteArray × Unit) → List Dyn → Prop
  | 0, _, _, _, _ => False
  | n + 1, v4, h0, x0, ds => (if (Decidable.decide (v4 < (↑(List.length x0) : Int))) = true then ((0 ≤ v4) ∧ (v4 < (↑(List.length x0) : Int)) ∧ ((0 ≤ v4) ∧ (v4 < (↑(List.length h0) : Int)) ∧ ((InR IntKind.i64 (v4 + 1)) ∧ (R7_3 n (v4 + 1) (List.set h0 (Int.toNat v4) (Prod.fst (List.getD x0 (Int.toNat v4) (ByteArray.empty, ByteArray.empty, ByteArray.empty, ())), Prod.fst (Prod.snd (List.getD x0 (Int.toNat v4) (ByteArray.empty, ByteArray.empty, ByteArray.empty, ()))), Prod.fst (Prod.snd (Prod.snd (List.getD x0 (Int.toNat v4) (ByteArray.empty, ByteArray.empty, ByteArray.empty, ())))), ())) (x0) ds)))) else (ds = [Dyn.mk (Ty.sl (Ty.cons Ty.str (Ty.cons Ty.str (Ty.cons Ty.str Ty.unit)))) h0]))
end
theorem p7_0 (x0 : List (ByteArray × ByteArray × ByteArray × Unit)) : Am.runN tab ext7 false 23 [] 2000 [] [] [0, 3, 4] [0] [] [.code b7] (entE 0 0 sig7 (x0, ())) (entL sig7 (x0, ())) = some (cutAt b7 3, E7_3 (0) (List.replicate (Int.toNat (↑(List.length x0) : Int)) (ByteArray.empty, ByteArray.empty, ByteArray.empty, ())) (x0), L7_3 (0) (List.replicate (Int.toNat (↑(List.length x0) : Int)) (ByteArray.empty, ByteArray.empty, ByteArray.empty, ())) (x0), [0 ≤ (↑(List.length x0) : Int), (↑(List.length x0) : Int) ≤ (↑(List.length x0) : Int), 48 * (↑(List.length x0) : Int) ≤ 281474976710656]) := by kernel_rfl
theorem p7_1 (v4 : Int) (h0 : List (ByteArray × ByteArray × ByteArray × Unit)) (x0 : List (ByteArray × ByteArray × ByteArray × Unit)) : Am.runN tab ext7 false 23 [] 2000 [] [] [0, 3, 4] [0] [true] (cutAt b7 3) (E7_3 v4 h0 x0) (L7_3 v4 h0 x0) = some (cutAt b7 3, E7_3 (v4 + 1) (List.set h0 (Int.toNat v4) (Prod.fst (List.getD x0 (Int.toNat v4) (ByteArray.empty, ByteArray.empty, ByteArray.empty, ())), Prod.fst (Prod.snd (List.getD x0 (Int.toNat v4) (ByteArray.empty, ByteArray.empty, ByteArray.empty, ()))), Prod.fst (Prod.snd (Prod.snd (List.getD x0 (Int.toNat v4) (ByteArray.empty, ByteArray.empty, ByteArray.empty, ())))), ())) (x0), L7_3 (v4 + 1) (List.set h0 (Int.toNat v4) (Prod.fst (List.getD x0 (Int.toNat v4) (ByteArray.empty, ByteArray.empty, ByteArray.empty, ())), Prod.fst (Prod.snd (List.getD x0 (Int.toNat v4) (ByteArray.empty, ByteArray.empty, ByteArray.empty, ()))), Prod.fst (Prod.snd (Prod.snd (List.getD x0 (Int.toNat v4) (ByteArray.empty, ByteArray.empty, ByteArray.empty, ())))), ())) (x0), [Decidable.decide (v4 < (↑(List.length x0) : Int)) = Bool.true, 0 ≤ v4, v4 < (↑(List.length x0) : Int), True, 0 ≤ v4, v4 < (↑(List.length h0) : Int), InR IntKind.i64 (v4 + 1)]) := by kernel_rfl
theorem p7_2 (v4 : Int) (h0 : List (ByteArray × ByteArray × ByteArray × Unit)) (x0 : List (ByteArray × ByteArray × ByteArray × Unit)) : runF tab ext7 false 23 [] 2000 [] tys7 Try.f7.results [false] (cutAt b7 3) (E7_3 v4 h0 x0) (L7_3 v4 h0 x0) = some ([Dyn.mk (Ty.sl (Ty.cons Ty.str (Ty.cons Ty.str (Ty.cons Ty.str Ty.unit)))) h0], [], [Decidable.decide (v4 < (↑(List.length x0) : Int)) = Bool.false]) := by kernel_rfl
theorem snd7 : ∀ n, (∀ (x0 : List (ByteArray × ByteArray × ByteArray × Unit)) ds, R7 n x0 ds → ∀ w0 O q, AtV Try.prog 7 (PostR ds [] [] q w0 O) 23 w0 O q [] [.code b7] (entE 0 0 sig7 (x0, ())) (entL sig7 (x0, ()))) ∧ (∀ (v4 : Int) (h0 : List (ByteArray × ByteArray × ByteArray × Unit)) (x0 : List (ByteArray × ByteArray × ByteArray × Unit)) ds, R7_3 n v4 h0 x0 ds → ∀ w0 O q, AtV Try.prog 7 (PostR ds [] [] q w0 O) 23 w0 O q [] (cutAt b7 3) (E7_3 v4 h0 x0) (L7_3 v4 h0 x0)) := by
  intro n
  induction n with
  | zero => exact ⟨fun _ _ h => by simp only [R7] at h, fun _ _ _ _ h => by simp only [R7_3] at h⟩
  | succ n ih =>
  obtain ⟨ih, ih3⟩ := ih
  refine ⟨?_, ?_⟩
  · intro x0 ds h w0 O q
    rw [R7] at h
    obtain ⟨s0, s1, s2, h⟩ := h
    exact AtV.runN tabOk ext7Ok mixed (p7_0 x0) ⟨s0, s1, s2, trivial⟩ (ih3 _ _ _ _ h w0 O q)

  · intro v4 h0 x0 ds h w0 O q
    rw [R7_3] at h
    by_cases b0 : (Decidable.decide (v4 < (↑(List.length x0) : Int))) = true
    · rw [if_pos b0] at h
      obtain ⟨s0, s1, h⟩ := h
      obtain ⟨s2, s3, h⟩ := h
      obtain ⟨s4, h⟩ := h
      exact AtV.runN tabOk ext7Ok mixed (p7_1 v4 h0 x0) ⟨b0, s0, s1, trivial, s2, s3, s4, trivial⟩ (ih3 _ _ _ _ h w0 O q)
    · rw [if_neg b0] at h
      replace b0 := Bool.eq_false_iff.2 b0
      subst h
      exact AtV.fin Try.func7 tabOk ext7Ok mixed (p7_2 v4 h0 x0) ⟨b0, trivial⟩



theorem run7 (x0 : List (ByteArray × ByteArray × ByteArray × Unit)) (hm : x0.length ≤ maxLen) : ∀ (k i : Nat), i + k = x0.length →
    R7_3 (k + 1) (i : Int) (x0.take i ++ List.replicate k (ByteArray.empty, ByteArray.empty, ByteArray.empty, ())) x0 [⟨.sl (.cons .str (.cons .str (.cons .str .unit))), x0⟩] := by
  intro k
  induction k with
  | zero =>
    intro i hi
    rw [R7_3, if_neg (by simp; omega), List.take_of_length_le (by omega)]
    simp
  | succ k ih =>
    intro i hi
    rw [R7_3, if_pos (by simp; omega)]
    simp only [Int.toNat_natCast]
    refine ⟨by omega, by omega, by omega, by simp; omega, inR_up hm (by omega), ?_⟩
    have hs := set_step x0 (ByteArray.empty, ByteArray.empty, ByteArray.empty, ()) i (by omega) (k + 1) (by omega)
    have he : ∀ y : ByteArray × ByteArray × ByteArray × Unit, (y.1, y.2.1, y.2.2.1, ()) = y := fun _ => rfl
    rw [he, hs]
    exact ih (i + 1) (by omega)

def g7_0 (x0 : List (ByteArray × ByteArray × ByteArray × Unit)) : List (ByteArray × ByteArray × ByteArray × Unit) := x0
def P7 (x0 : List (ByteArray × ByteArray × ByteArray × Unit)) : Prop := 48 * (x0.length : Int) ≤ 281474976710656
def S7 : Am.Spec := { sig := sig7, pre := fun ⟨x0, _⟩ => P7 x0, res := fun ⟨x0, _⟩ => [⟨.sl (.cons .str (.cons .str (.cons .str .unit))), g7_0 x0⟩] }
theorem con7 : Contract Try.prog 7 S7 := contract_of Try.func7 hb7 (Nat.le_of_ble_eq_true (by kernel_rfl)) (fun ⟨x0, _⟩ h hwf w0 O q => by
  refine (snd7 (x0.length + 2)).1 x0 _ ?_ w0 O q
  show R7 (x0.length + 1 + 1) x0 [⟨.sl (.cons .str (.cons .str (.cons .str .unit))), x0⟩]
  rw [R7]
  refine ⟨by omega, by omega, h, ?_⟩
  have := run7 x0 hwf.1.1 x0.length 0 (by omega)
  simpa using this)

end Go.Proofs.Ytakodkjcmacofaa

/- Function 57 (spec.l01Small): its runs between cut points. Written by a program of this repo (gen). -/
set_option linter.unusedVariables false
set_option linter.unusedSimpArgs false
set_option maxRecDepth 100000
namespace Go.Proofs.Ytakodkjcmacofaa
open Go Go.Am Go.Proofs
def ext57 : Ext := []
theorem ext57Ok : ExtOk Try.prog ext57 := trivial
/-! Function 57. -/
noncomputable def b57 : Code := bodyOf Try.f57
theorem hb57 : Try.f57.body = some b57 := by kernel_rfl
def sig57 : List AT := [AT.v (Ty.int IntKind.u8)]
def tys57 : List Ty := [Ty.bool]
def P57 (x0 : Int) : Prop := True
def g57_0 (x0 : Int) : Bool := (if (Decidable.decide (x0 ≥ 97)) = true then Decidable.decide (x0 ≤ 122) else Bool.false)
theorem p57_0 (x0 : Int) : runF tab ext57 false 9 [] 2000 [] tys57 Try.f57.results [true] [.code b57] (entE 0 0 sig57 (x0, ())) (entL sig57 (x0, ())) = some ([Dyn.mk Ty.bool (Decidable.decide (x0 ≤ 122))], [], [Decidable.decide (x0 ≥ 97) = Bool.true]) := by kernel_rfl
theorem p57_1 (x0 : Int) : runF tab ext57 false 9 [] 2000 [] tys57 Try.f57.results [false] [.code b57] (entE 0 0 sig57 (x0, ())) (entL sig57 (x0, ())) = some ([Dyn.mk Ty.bool Bool.false], [], [Decidable.decide (x0 ≥ 97) = Bool.false]) := by kernel_rfl
theorem at57 (x0 : Int) (h : P57 x0) (w0 : World) (O : List Nat) (q : Nat → Value) : AtV Try.prog 57 (PostR [⟨Ty.bool, g57_0 x0⟩] [] [] q w0 O) 9 w0 O q [] [.code b57] (entE 0 0 sig57 (x0, ())) (entL sig57 (x0, ())) := by
  unfold P57 at h
  unfold g57_0
  by_cases b0 : (Decidable.decide (x0 ≥ 97)) = true
  · try simp only [if_pos b0] at h ⊢
    exact AtV.fin Try.func57 tabOk ext57Ok mixed (p57_0 x0) ⟨b0, trivial⟩
  · try simp only [if_neg b0] at h ⊢
    replace b0 := Bool.eq_false_iff.2 b0
    exact AtV.fin Try.func57 tabOk ext57Ok mixed (p57_1 x0) ⟨b0, trivial⟩

def S57 : Am.Spec := { sig := sig57, pre := fun ⟨x0, _⟩ => P57 x0, res := fun ⟨x0, _⟩ => [⟨Ty.bool, g57_0 x0⟩] }
theorem con57 : Contract Try.prog 57 S57 := contract_of Try.func57 hb57 (Nat.le_of_ble_eq_true (by kernel_rfl)) (fun ⟨x0, _⟩ h _ w0 O q => at57 x0 h w0 O q)


end Go.Proofs.Ytakodkjcmacofaa

/- Function 58 (spec.l01Digit): its runs between cut points. Written by a program of this repo (gen). -/
set_option linter.unusedVariables false
set_option linter.unusedSimpArgs false
set_option maxRecDepth 100000
namespace Go.Proofs.Ytakodkjcmacofaa
open Go Go.Am Go.Proofs
def ext58 : Ext := []
theorem ext58Ok : ExtOk Try.prog ext58 := trivial
/-! Function 58. -/
noncomputable def b58 : Code := bodyOf Try.f58
theorem hb58 : Try.f58.body = some b58 := by kernel_rfl
def sig58 : List AT := [AT.v (Ty.int IntKind.u8)]
def tys58 : List Ty := [Ty.bool]
def P58 (x0 : Int) : Prop := True
def g58_0 (x0 : Int) : Bool := (if (Decidable.decide (x0 ≥ 48)) = true then Decidable.decide (x0 ≤ 57) else Bool.false)
theorem p58_0 (x0 : Int) : runF tab ext58 false 9 [] 2000 [] tys58 Try.f58.results [true] [.code b58] (entE 0 0 sig58 (x0, ())) (entL sig58 (x0, ())) = some ([Dyn.mk Ty.bool (Decidable.decide (x0 ≤ 57))], [], [Decidable.decide (x0 ≥ 48) = Bool.true]) := by kernel_rfl
theorem p58_1 (x0 : Int) : runF tab ext58 false 9 [] 2000 [] tys58 Try.f58.results [false] [.code b58] (entE 0 0 sig58 (x0, ())) (entL sig58 (x0, ())) = some ([Dyn.mk Ty.bool Bool.false], [], [Decidable.decide (x0 ≥ 48) = Bool.false]) := by kernel_rfl
theorem at58 (x0 : Int) (h : P58 x0) (w0 : World) (O : List Nat) (q : Nat → Value) : AtV Try.prog 58 (PostR [⟨Ty.bool, g58_0 x0⟩] [] [] q w0 O) 9 w0 O q [] [.code b58] (entE 0 0 sig58 (x0, ())) (entL sig58 (x0, ())) := by
  unfold P58 at h
  unfold g58_0
  by_cases b0 : (Decidable.decide (x0 ≥ 48)) = true
  · try simp only [if_pos b0] at h ⊢
    exact AtV.fin Try.func58 tabOk ext58Ok mixed (p58_0 x0) ⟨b0, trivial⟩
  · try simp only [if_neg b0] at h ⊢
    replace b0 := Bool.eq_false_iff.2 b0
    exact AtV.fin Try.func58 tabOk ext58Ok mixed (p58_1 x0) ⟨b0, trivial⟩

def S58 : Am.Spec := { sig := sig58, pre := fun ⟨x0, _⟩ => P58 x0, res := fun ⟨x0, _⟩ => [⟨Ty.bool, g58_0 x0⟩] }
theorem con58 : Contract Try.prog 58 S58 := contract_of Try.func58 hb58 (Nat.le_of_ble_eq_true (by kernel_rfl)) (fun ⟨x0, _⟩ h _ w0 O q => at58 x0 h w0 O q)


end Go.Proofs.Ytakodkjcmacofaa

/- Function 45 (spec.l01Name): its runs between cut points. Written by a program of this repo (gen). -/
set_option linter.unusedVariables false
set_option linter.unusedSimpArgs false
set_option maxRecDepth 100000
namespace Go.Proofs.Ytakodkjcmacofaa
open Go Go.Am Go.Proofs
def ext45 : Ext := [(57, S57), (58, S58)]
theorem call45_57 : Callable Try.prog 57 := ⟨Try.f57, Try.func57, by kernel_rfl, by kernel_rfl⟩
theorem call45_58 : Callable Try.prog 58 := ⟨Try.f58, Try.func58, by kernel_rfl, by kernel_rfl⟩
theorem ext45Ok : ExtOk Try.prog ext45 := ⟨⟨call45_57, con57⟩, ⟨call45_58, con58⟩, trivial⟩
/-! Function 45. -/
noncomputable def b45 : Code := bodyOf Try.f45
theorem hb45 : Try.f45.body = some b45 := by kernel_rfl
def sig45 : List AT := [AT.v (Ty.str)]
def tys45 : List Ty := [Ty.bool]
def E45_4 (v3 : Int) (x0 : ByteArray) : Env := [(0, PV.a (Atom.val (Value.string x0))), (3, PV.a (Atom.val (Value.int IntKind.i64 v3)))]
def L45_4 (v3 : Int) (x0 : ByteArray) : Heap := []
mutual
def R45 : Nat → ByteArray → List Dyn → Prop
  | 0, _, _ => False
  | n + 1, x0, ds => (if (ByteArray.toList x0 == ByteArray.toList (ByteArray.mk #[])) = true then (ds = [Dyn.mk Ty.bool Bool.false]) else (if (Decidable.decide ((↑(ByteArray.size x0) : Int) > 10)) = true then (ds = [Dyn.mk Ty.bool Bool.false]) else ((0 < (↑(ByteArray.size x0) : Int)) ∧ (if (!g57_0 (↑(UInt8.toNat (List.getD (Array.toList (ByteArray.data x0)) 0 0)) : Int)) = true then (ds = [Dyn.mk Ty.bool Bool.false]) else (R45_4 n (0) (x0) ds)))))
def R45_4 : Nat → Int → ByteArray → List Dyn → Prop
  | 0, _, _, _ => False
  | n + 1, v3, x0, ds => (if (Decidable.decide (v3 < (↑(ByteArray.size x0) : Int))) = true then ((0 ≤ v3) ∧ (v3 < (↑(ByteArray.size x0) : Int)) ∧ (if (!g57_0 (↑(UInt8.toNat (List.getD (Array.toList (ByteArray.data x0)) (Int.toNat v3) 0)) : Int)) = true then ((0 ≤ v3) ∧ (v3 < (↑(ByteArray.size x0) : Int)) ∧ (if (!g58_0 (↑(UInt8.toNat (List.getD (Array.toList (ByteArray.data x0)) (Int.toNat v3) 0)) : Int)) = true then (ds = [Dyn.mk Ty.bool Bool.false]) else ((InR IntKind.i64 (v3 + 1)) ∧ (R45_4 n (v3 + 1) (x0) ds)))) else ((InR IntKind.i64 (v3 + 1)) ∧ (R45_4 n (v3 + 1) (x0) ds)))) else (ds = [Dyn.mk Ty.bool Bool.true]))
end
theorem p45_0 (x0 : ByteArray) : runF tab ext45 false 35 [] 2000 [] tys45 Try.f45.results [true, true, true] [.code b45] (entE 0 0 sig45 (x0, ())) (entL sig45 (x0, ())) = some ([Dyn.mk Ty.bool Bool.false], [], [(ByteArray.toList x0 == ByteArray.toList (ByteArray.mk #[])) = Bool.true, Bool.true = Bool.true, Bool.true = Bool.true]) := by kernel_rfl
theorem p45_1 (x0 : ByteArray) : runF tab ext45 false 35 [] 2000 [] tys45 Try.f45.results [false, true, true] [.code b45] (entE 0 0 sig45 (x0, ())) (entL sig45 (x0, ())) = some ([Dyn.mk Ty.bool Bool.false], [], [(ByteArray.toList x0 == ByteArray.toList (ByteArray.mk #[])) = Bool.false, Decidable.decide ((↑(ByteArray.size x0) : Int) > 10) = Bool.true, Bool.true = Bool.true]) := by kernel_rfl
theorem p45_2 (x0 : ByteArray) : runF tab ext45 false 35 [] 2000 [] tys45 Try.f45.results [false, false, true] [.code b45] (entE 0 0 sig45 (x0, ())) (entL sig45 (x0, ())) = some ([Dyn.mk Ty.bool Bool.false], [], [(ByteArray.toList x0 == ByteArray.toList (ByteArray.mk #[])) = Bool.false, Decidable.decide ((↑(ByteArray.size x0) : Int) > 10) = Bool.false, (0 : Int) ≤ (0 : Int), 0 < (↑(ByteArray.size x0) : Int), True, (!g57_0 (↑(UInt8.toNat (List.getD (Array.toList (ByteArray.data x0)) 0 0)) : Int)) = Bool.true]) := by kernel_rfl
theorem p45_3 (x0 : ByteArray) : Am.runN tab ext45 false 35 [] 2000 [] [] [0, 3] [] [false, false, false] [.code b45] (entE 0 0 sig45 (x0, ())) (entL sig45 (x0, ())) = some (cutAt b45 4, E45_4 (0) (x0), L45_4 (0) (x0), [(ByteArray.toList x0 == ByteArray.toList (ByteArray.mk #[])) = Bool.false, Decidable.decide ((↑(ByteArray.size x0) : Int) > 10) = Bool.false, (0 : Int) ≤ (0 : Int), 0 < (↑(ByteArray.size x0) : Int), True, (!g57_0 (↑(UInt8.toNat (List.getD (Array.toList (ByteArray.data x0)) 0 0)) : Int)) = Bool.false]) := by kernel_rfl
theorem p45_4 (v3 : Int) (x0 : ByteArray) : runF tab ext45 false 35 [] 2000 [] tys45 Try.f45.results [true, true, true] (cutAt b45 4) (E45_4 v3 x0) (L45_4 v3 x0) = some ([Dyn.mk Ty.bool Bool.false], [], [Decidable.decide (v3 < (↑(ByteArray.size x0) : Int)) = Bool.true, 0 ≤ v3, v3 < (↑(ByteArray.size x0) : Int), True, (!g57_0 (↑(UInt8.toNat (List.getD (Array.toList (ByteArray.data x0)) (Int.toNat v3) 0)) : Int)) = Bool.true, 0 ≤ v3, v3 < (↑(ByteArray.size x0) : Int), True, (!g58_0 (↑(UInt8.toNat (List.getD (Array.toList (ByteArray.data x0)) (Int.toNat v3) 0)) : Int)) = Bool.true]) := by kernel_rfl
theorem p45_5 (v3 : Int) (x0 : ByteArray) : Am.runN tab ext45 false 35 [] 2000 [] [] [0, 3] [] [true, true, false] (cutAt b45 4) (E45_4 v3 x0) (L45_4 v3 x0) = some (cutAt b45 4, E45_4 (v3 + 1) (x0), L45_4 (v3 + 1) (x0), [Decidable.decide (v3 < (↑(ByteArray.size x0) : Int)) = Bool.true, 0 ≤ v3, v3 < (↑(ByteArray.size x0) : Int), True, (!g57_0 (↑(UInt8.toNat (List.getD (Array.toList (ByteArray.data x0)) (Int.toNat v3) 0)) : Int)) = Bool.true, 0 ≤ v3, v3 < (↑(ByteArray.size x0) : Int), True, (!g58_0 (↑(UInt8.toNat (List.getD (Array.toList (ByteArray.data x0)) (Int.toNat v3) 0)) : Int)) = Bool.false, InR IntKind.i64 (v3 + 1)]) := by kernel_rfl
theorem p45_6 (v3 : Int) (x0 : ByteArray) : Am.runN tab ext45 false 35 [] 2000 [] [] [0, 3] [] [true, false, false] (cutAt b45 4) (E45_4 v3 x0) (L45_4 v3 x0) = some (cutAt b45 4, E45_4 (v3 + 1) (x0), L45_4 (v3 + 1) (x0), [Decidable.decide (v3 < (↑(ByteArray.size x0) : Int)) = Bool.true, 0 ≤ v3, v3 < (↑(ByteArray.size x0) : Int), True, (!g57_0 (↑(UInt8.toNat (List.getD (Array.toList (ByteArray.data x0)) (Int.toNat v3) 0)) : Int)) = Bool.false, Bool.false = Bool.false, InR IntKind.i64 (v3 + 1)]) := by kernel_rfl
theorem p45_7 (v3 : Int) (x0 : ByteArray) : runF tab ext45 false 35 [] 2000 [] tys45 Try.f45.results [false] (cutAt b45 4) (E45_4 v3 x0) (L45_4 v3 x0) = some ([Dyn.mk Ty.bool Bool.true], [], [Decidable.decide (v3 < (↑(ByteArray.size x0) : Int)) = Bool.false]) := by kernel_rfl
theorem snd45 : ∀ n, (∀ (x0 : ByteArray) ds, R45 n x0 ds → ∀ w0 O q, AtV Try.prog 45 (PostR ds [] [] q w0 O) 35 w0 O q [] [.code b45] (entE 0 0 sig45 (x0, ())) (entL sig45 (x0, ()))) ∧ (∀ (v3 : Int) (x0 : ByteArray) ds, R45_4 n v3 x0 ds → ∀ w0 O q, AtV Try.prog 45 (PostR ds [] [] q w0 O) 35 w0 O q [] (cutAt b45 4) (E45_4 v3 x0) (L45_4 v3 x0)) := by
  intro n
  induction n with
  | zero => exact ⟨fun _ _ h => by simp only [R45] at h, fun _ _ _ h => by simp only [R45_4] at h⟩
  | succ n ih =>
  obtain ⟨ih, ih4⟩ := ih
  refine ⟨?_, ?_⟩
  · intro x0 ds h w0 O q
    rw [R45] at h
    by_cases b0 : (ByteArray.toList x0 == ByteArray.toList (ByteArray.mk #[])) = true
    · rw [if_pos b0] at h
      subst h
      exact AtV.fin Try.func45 tabOk ext45Ok mixed (p45_0 x0) ⟨b0, rfl, rfl, trivial⟩
    · rw [if_neg b0] at h
      replace b0 := Bool.eq_false_iff.2 b0
      by_cases b1 : (Decidable.decide ((↑(ByteArray.size x0) : Int) > 10)) = true
      · rw [if_pos b1] at h
        subst h
        exact AtV.fin Try.func45 tabOk ext45Ok mixed (p45_1 x0) ⟨b0, b1, rfl, trivial⟩
      · rw [if_neg b1] at h
        replace b1 := Bool.eq_false_iff.2 b1
        obtain ⟨s0, h⟩ := h
        by_cases b2 : (!g57_0 (↑(UInt8.toNat (List.getD (Array.toList (ByteArray.data x0)) 0 0)) : Int)) = true
        · rw [if_pos b2] at h
          subst h
          exact AtV.fin Try.func45 tabOk ext45Ok mixed (p45_2 x0) ⟨b0, b1, (by decide), s0, trivial, b2, trivial⟩
        · rw [if_neg b2] at h
          replace b2 := Bool.eq_false_iff.2 b2
          exact AtV.runN tabOk ext45Ok mixed (p45_3 x0) ⟨b0, b1, (by decide), s0, trivial, b2, trivial⟩ (ih4 _ _ _ h w0 O q)

  · intro v3 x0 ds h w0 O q
    rw [R45_4] at h
    by_cases b0 : (Decidable.decide (v3 < (↑(ByteArray.size x0) : Int))) = true
    · rw [if_pos b0] at h
      obtain ⟨s0, s1, h⟩ := h
      by_cases b1 : (!g57_0 (↑(UInt8.toNat (List.getD (Array.toList (ByteArray.data x0)) (Int.toNat v3) 0)) : Int)) = true
      · rw [if_pos b1] at h
        obtain ⟨s2, s3, h⟩ := h
        by_cases b2 : (!g58_0 (↑(UInt8.toNat (List.getD (Array.toList (ByteArray.data x0)) (Int.toNat v3) 0)) : Int)) = true
        · rw [if_pos b2] at h
          subst h
          exact AtV.fin Try.func45 tabOk ext45Ok mixed (p45_4 v3 x0) ⟨b0, s0, s1, trivial, b1, s2, s3, trivial, b2, trivial⟩
        · rw [if_neg b2] at h
          replace b2 := Bool.eq_false_iff.2 b2
          obtain ⟨s4, h⟩ := h
          exact AtV.runN tabOk ext45Ok mixed (p45_5 v3 x0) ⟨b0, s0, s1, trivial, b1, s2, s3, trivial, b2, s4, trivial⟩ (ih4 _ _ _ h w0 O q)
      · rw [if_neg b1] at h
        replace b1 := Bool.eq_false_iff.2 b1
        obtain ⟨s2, h⟩ := h
        exact AtV.runN tabOk ext45Ok mixed (p45_6 v3 x0) ⟨b0, s0, s1, trivial, b1, rfl, s2, trivial⟩ (ih4 _ _ _ h w0 O q)
    · rw [if_neg b0] at h
      replace b0 := Bool.eq_false_iff.2 b0
      subst h
      exact AtV.fin Try.func45 tabOk ext45Ok mixed (p45_7 v3 x0) ⟨b0, trivial⟩



def g45_0 (x0 : ByteArray) : Bool := decide (1 ≤ x0.size) && decide (x0.size ≤ 10) && g57_0 ((bytesOf x0).getD 0 0) && (bytesOf x0).all fun b => g57_0 b || g58_0 b
def P45 (x0 : ByteArray) : Prop := True

theorem top45 (x0 : ByteArray) (hw : Wf .str x0) : R45 (x0.size + 1 + 1) x0 [⟨.bool, g45_0 x0⟩] := by
  have hl := bytesOf_length x0
  rw [R45]
  by_cases h0 : x0 = ByteArray.mk #[]
  · rw [if_pos ((bytes_eq _ _).2 h0)]
    subst h0
    rfl
  · rw [if_neg (fun h => h0 ((bytes_eq _ _).1 h))]
    have hs : 1 ≤ x0.size := by
      rcases Nat.lt_or_ge 0 x0.size with h | h
      · exact h
      · exact absurd (bytesOf_inj (s := x0) (t := ByteArray.mk #[]) (List.eq_nil_of_length_eq_zero (by rw [hl]; omega))) h0
    by_cases h1 : (x0.size : Int) > 10
    · rw [if_pos (by simpa using h1)]
      have : ¬ x0.size ≤ 10 := by omega
      simp [g45_0, this]
    · rw [if_neg (by simpa using h1)]
      refine ⟨by omega, ?_⟩
      rw [byte_get]
      cases h2 : g57_0 ((bytesOf x0).getD 0 0) with
      | false =>
        rw [if_pos (by simp)]
        simp [g45_0, h2, -List.getD_eq_getElem?_getD]
      | true =>
        rw [if_neg (by simp)]
        have key := loop_test (bytesOf x0) 0 (fun b => g57_0 b || g58_0 b) [(⟨.bool, false⟩ : Dyn)] [⟨.bool, true⟩] (fun n i ds => R45_4 n i x0 ds) (fun n => ?_) (fun n i hi hok ds hr => ?_) (fun n i hi hok => ?_)
        · rw [hl] at key
          have e : g45_0 x0 = (bytesOf x0).all fun b => g57_0 b || g58_0 b := by
            have : x0.size ≤ 10 := by omega
            unfold g45_0
            simp only [hs, this, decide_true, Bool.true_and, h2]
          rw [e]
          cases h : (bytesOf x0).all fun b => g57_0 b || g58_0 b with
          | true => rw [if_pos h] at key; exact key
          | false => rw [if_neg (by rw [h]; simp)] at key; exact key
        · show R45_4 (n + 1) ((bytesOf x0).length : Int) x0 _
          rw [R45_4, hl, if_neg (by simp)]
        · rw [R45_4, if_pos (by simp; omega)]
          simp only [Int.toNat_natCast, byte_get]
          generalize (bytesOf x0).getD i 0 = c at *
          refine ⟨by omega, by omega, ?_⟩
          have hu := inR_up (xs := bytesOf x0) (by rw [hl]; exact hw) hi
          cases h3 : g57_0 c with
          | true => rw [if_neg (by simp)]; exact ⟨hu, hr⟩
          | false =>
            rw [if_pos (by simp)]
            rw [h3, Bool.false_or] at hok
            refine ⟨by omega, by omega, ?_⟩
            rw [if_neg (by rw [hok]; simp)]
            exact ⟨hu, hr⟩
        · simp only [Bool.or_eq_false_iff] at hok
          rw [R45_4, if_pos (by simp; omega)]
          simp only [Int.toNat_natCast, byte_get]
          refine ⟨by omega, by omega, ?_⟩
          rw [if_pos (by rw [hok.1]; rfl)]
          refine ⟨by omega, by omega, ?_⟩
          rw [if_pos (by rw [hok.2]; rfl)] <;> trivial

def S45 : Am.Spec := { sig := sig45, pre := fun ⟨x0, _⟩ => P45 x0, res := fun ⟨x0, _⟩ => [⟨Ty.bool, g45_0 x0⟩] }
theorem con45 : Contract Try.prog 45 S45 := contract_of Try.func45 hb45 (Nat.le_of_ble_eq_true (by kernel_rfl)) (fun ⟨x0, _⟩ h hwf w0 O q =>
  (snd45 _).1 x0 _ (top45 x0 hwf.1) w0 O q)

end Go.Proofs.Ytakodkjcmacofaa

/- Function 35 (spec.l29One): its runs between cut points. Written by a program of this repo (gen). -/
set_option linter.unusedVariables false
set_option linter.unusedSimpArgs false
set_option maxRecDepth 100000
namespace Go.Proofs.Ytakodkjcmacofaa
open Go Go.Am Go.Proofs
def ext35 : Ext := [(45, S45)]
theorem call35_45 : Callable Try.prog 45 := ⟨Try.f45, Try.func45, by kernel_rfl, by kernel_rfl⟩
theorem ext35Ok : ExtOk Try.prog ext35 := ⟨⟨call35_45, con45⟩, trivial⟩
/-! Function 35. -/
noncomputable def b35 : Code := bodyOf Try.f35
theorem hb35 : Try.f35.body = some b35 := by kernel_rfl
def sig35 : List AT := [AT.p (Ty.cons Ty.str (Ty.cons Ty.str (Ty.cons Ty.str Ty.unit)))]
def tys35 : List Ty := [Ty.bool]
def E35_2 (v3 : Int) (x0 : ByteArray × ByteArray × ByteArray × Unit) : Env := [(0, PV.a (Atom.ptr (Ty.cons Ty.str (Ty.cons Ty.str (Ty.cons Ty.str Ty.unit))) x0)), (3, PV.a (Atom.val (Value.int IntKind.i64 v3)))]
def L35_2 (v3 : Int) (x0 : ByteArray × ByteArray × ByteArray × Unit) : Heap := []
mutual
def R35 : Nat → ByteArray × ByteArray × ByteArray × Unit → List Dyn → Prop
  | 0, _, _ => False
  | n + 1, x0, ds => (R35_2 n (0) (x0) ds)
def R35_2 : Nat → Int → ByteArray × ByteArray × ByteArray × Unit → List Dyn → Prop
  | 0, _, _, _ => False
  | n + 1, v3, x0, ds => (if (Decidable.decide (v3 < (↑(ByteArray.size (Prod.fst (Prod.snd (Prod.snd x0)))) : Int))) = true then ((0 ≤ v3) ∧ (v3 < (↑(ByteArray.size (Prod.fst (Prod.snd (Prod.snd x0)))) : Int)) ∧ (if ((↑(UInt8.toNat (List.getD (Array.toList (ByteArray.data (Prod.fst (Prod.snd (Prod.snd x0))))) (Int.toNat v3) 0)) : Int) == 10) = true then (ds = [Dyn.mk Ty.bool Bool.false]) else ((InR IntKind.i64 (v3 + 1)) ∧ (R35_2 n (v3 + 1) (x0) ds)))) else (if (g45_0 (Prod.fst x0)) = true then (if (g45_0 (Prod.fst (Prod.snd x0))) = true then (ds = [Dyn.mk Ty.bool (Decidable.decide ((↑(ByteArray.size (Prod.fst (Prod.snd (Prod.snd x0)))) : Int) ≤ 400))]) else (ds = [Dyn.mk Ty.bool Bool.false])) else (ds = [Dyn.mk Ty.bool Bool.false])))
end
theorem p35_0 (x0 : ByteArray × ByteArray × ByteArray × Unit) : Am.runN tab ext35 false 40 [] 2000 [] [] [0, 3] [] [] [.code b35] (entE 0 0 sig35 (x0, ())) (entL sig35 (x0, ())) = some (cutAt b35 2, E35_2 (0) (x0), L35_2 (0) (x0), []) := by kernel_rfl
theorem p35_1 (v3 : Int) (x0 : ByteArray × ByteArray × ByteArray × Unit) : runF tab ext35 false 40 [] 2000 [] tys35 Try.f35.results [true, true] (cutAt b35 2) (E35_2 v3 x0) (L35_2 v3 x0) = some ([Dyn.mk Ty.bool Bool.false], [], [Decidable.decide (v3 < (↑(ByteArray.size (Prod.fst (Prod.snd (Prod.snd x0)))) : Int)) = Bool.true, 0 ≤ v3, v3 < (↑(ByteArray.size (Prod.fst (Prod.snd (Prod.snd x0)))) : Int), ((↑(UInt8.toNat (List.getD (Array.toList (ByteArray.data (Prod.fst (Prod.snd (Prod.snd x0))))) (Int.toNat v3) 0)) : Int) == 10) = Bool.true]) := by kernel_rfl
theorem p35_2 (v3 : Int) (x0 : ByteArray × ByteArray × ByteArray × Unit) : Am.runN tab ext35 false 40 [] 2000 [] [] [0, 3] [] [true, false] (cutAt b35 2) (E35_2 v3 x0) (L35_2 v3 x0) = some (cutAt b35 2, E35_2 (v3 + 1) (x0), L35_2 (v3 + 1) (x0), [Decidable.decide (v3 < (↑(ByteArray.size (Prod.fst (Prod.snd (Prod.snd x0)))) : Int)) = Bool.true, 0 ≤ v3, v3 < (↑(ByteArray.size (Prod.fst (Prod.snd (Prod.snd x0)))) : Int), ((↑(UInt8.toNat (List.getD (Array.toList (ByteArray.data (Prod.fst (Prod.snd (Prod.snd x0))))) (Int.toNat v3) 0)) : Int) == 10) = Bool.false, InR IntKind.i64 (v3 + 1)]) := by kernel_rfl
theorem p35_3 (v3 : Int) (x0 : ByteArray × ByteArray × ByteArray × Unit) : runF tab ext35 false 40 [] 2000 [] tys35 Try.f35.results [false, true, true] (cutAt b35 2) (E35_2 v3 x0) (L35_2 v3 x0) = some ([Dyn.mk Ty.bool (Decidable.decide ((↑(ByteArray.size (Prod.fst (Prod.snd (Prod.snd x0)))) : Int) ≤ 400))], [], [Decidable.decide (v3 < (↑(ByteArray.size (Prod.fst (Prod.snd (Prod.snd x0)))) : Int)) = Bool.false, True, g45_0 (Prod.fst x0) = Bool.true, True, g45_0 (Prod.fst (Prod.snd x0)) = Bool.true]) := by kernel_rfl
theorem p35_4 (v3 : Int) (x0 : ByteArray × ByteArray × ByteArray × Unit) : runF tab ext35 false 40 [] 2000 [] tys35 Try.f35.results [false, true, false] (cutAt b35 2) (E35_2 v3 x0) (L35_2 v3 x0) = some ([Dyn.mk Ty.bool Bool.false], [], [Decidable.decide (v3 < (↑(ByteArray.size (Prod.fst (Prod.snd (Prod.snd x0)))) : Int)) = Bool.false, True, g45_0 (Prod.fst x0) = Bool.true, True, g45_0 (Prod.fst (Prod.snd x0)) = Bool.false]) := by kernel_rfl
theorem p35_5 (v3 : Int) (x0 : ByteArray × ByteArray × ByteArray × Unit) : runF tab ext35 false 40 [] 2000 [] tys35 Try.f35.results [false, false, false] (cutAt b35 2) (E35_2 v3 x0) (L35_2 v3 x0) = some ([Dyn.mk Ty.bool Bool.false], [], [Decidable.decide (v3 < (↑(ByteArray.size (Prod.fst (Prod.snd (Prod.snd x0)))) : Int)) = Bool.false, True, g45_0 (Prod.fst x0) = Bool.false, Bool.false = Bool.false]) := by kernel_rfl
theorem snd35 : ∀ n, (∀ (x0 : ByteArray × ByteArray × ByteArray × Unit) ds, R35 n x0 ds → ∀ w0 O q, AtV Try.prog 35 (PostR ds [] [] q w0 O) 40 w0 O q [] [.code b35] (entE 0 0 sig35 (x0, ())) (entL sig35 (x0, ()))) ∧ (∀ (v3 : Int) (x0 : ByteArray × ByteArray × ByteArray × Unit) ds, R35_2 n v3 x0 ds → ∀ w0 O q, AtV Try.prog 35 (PostR ds [] [] q w0 O) 40 w0 O q [] (cutAt b35 2) (E35_2 v3 x0) (L35_2 v3 x0)) := by
  intro n
  induction n with
  | zero => exact ⟨fun _ _ h => by simp only [R35] at h, fun _ _ _ h => by simp only [R35_2] at h⟩
  | succ n ih =>
  obtain ⟨ih, ih2⟩ := ih
  refine ⟨?_, ?_⟩
  · intro x0 ds h w0 O q
    rw [R35] at h
    exact AtV.runN tabOk ext35Ok mixed (p35_0 x0) trivial (ih2 _ _ _ h w0 O q)

  · intro v3 x0 ds h w0 O q
    rw [R35_2] at h
    by_cases b0 : (Decidable.decide (v3 < (↑(ByteArray.size (Prod.fst (Prod.snd (Prod.snd x0)))) : Int))) = true
    · rw [if_pos b0] at h
      obtain ⟨s0, s1, h⟩ := h
      by_cases b1 : ((↑(UInt8.toNat (List.getD (Array.toList (ByteArray.data (Prod.fst (Prod.snd (Prod.snd x0))))) (Int.toNat v3) 0)) : Int) == 10) = true
      · rw [if_pos b1] at h
        subst h
        exact AtV.fin Try.func35 tabOk ext35Ok mixed (p35_1 v3 x0) ⟨b0, s0, s1, b1, trivial⟩
      · rw [if_neg b1] at h
        replace b1 := Bool.eq_false_iff.2 b1
        obtain ⟨s2, h⟩ := h
        exact AtV.runN tabOk ext35Ok mixed (p35_2 v3 x0) ⟨b0, s0, s1, b1, s2, trivial⟩ (ih2 _ _ _ h w0 O q)
    · rw [if_neg b0] at h
      replace b0 := Bool.eq_false_iff.2 b0
      by_cases b1 : (g45_0 (Prod.fst x0)) = true
      · rw [if_pos b1] at h
        by_cases b2 : (g45_0 (Prod.fst (Prod.snd x0))) = true
        · rw [if_pos b2] at h
          subst h
          exact AtV.fin Try.func35 tabOk ext35Ok mixed (p35_3 v3 x0) ⟨b0, trivial, b1, trivial, b2, trivial⟩
        · rw [if_neg b2] at h
          replace b2 := Bool.eq_false_iff.2 b2
          subst h
          exact AtV.fin Try.func35 tabOk ext35Ok mixed (p35_4 v3 x0) ⟨b0, trivial, b1, trivial, b2, trivial⟩
      · rw [if_neg b1] at h
        replace b1 := Bool.eq_false_iff.2 b1
        subst h
        exact AtV.fin Try.func35 tabOk ext35Ok mixed (p35_5 v3 x0) ⟨b0, trivial, b1, rfl, trivial⟩



def g35_0 (x0 : ByteArray × ByteArray × ByteArray × Unit) : Bool := (bytesOf x0.2.2.1).all (fun b => !(b == 10)) && g45_0 x0.1 && g45_0 x0.2.1 && decide (x0.2.2.1.size ≤ 400)
def P35 (x0 : ByteArray × ByteArray × ByteArray × Unit) : Prop := True

theorem top35 (x0 : ByteArray × ByteArray × ByteArray × Unit) (hw : Wf (.cons .str (.cons .str (.cons .str .unit))) x0) : R35 (x0.2.2.1.size + 1 + 1) x0 [⟨.bool, g35_0 x0⟩] := by
  have hl := bytesOf_length x0.2.2.1
  have hw3 : Wf .str x0.2.2.1 := hw.2.2.1
  rw [R35]
  have key := loop_test (bytesOf x0.2.2.1) 0 (fun b => !(b == 10)) [(⟨.bool, false⟩ : Dyn)] [⟨.bool, g45_0 x0.1 && g45_0 x0.2.1 && decide (x0.2.2.1.size ≤ 400)⟩] (fun n i ds => R35_2 n i x0 ds) (fun n => ?_) (fun n i hi hok ds hr => ?_) (fun n i hi hok => ?_)
  · rw [hl] at key
    unfold g35_0
    cases h : (bytesOf x0.2.2.1).all fun b => !(b == 10) with
    | true => rw [if_pos h] at key; simpa using key
    | false => rw [if_neg (by rw [h]; simp)] at key; simpa using key
  · show R35_2 (n + 1) ((bytesOf x0.2.2.1).length : Int) x0 _
    rw [R35_2, hl, if_neg (by simp)]
    have hc : decide ((x0.2.2.1.size : Int) ≤ 400) = decide (x0.2.2.1.size ≤ 400) := by
      congr 1; exact propext ⟨fun h => by omega, fun h => by omega⟩
    rw [hc]
    cases g45_0 x0.1 <;> cases g45_0 x0.2.1 <;> simp
  · rw [R35_2, if_pos (by simp; omega)]
    simp only [Int.toNat_natCast, byte_get]
    refine ⟨by omega, by omega, ?_⟩
    rw [if_neg (by intro h; rw [h] at hok; cases hok)]
    exact ⟨inR_up (xs := bytesOf x0.2.2.1) (by rw [hl]; exact hw3) hi, hr⟩
  · rw [R35_2, if_pos (by simp; omega)]
    simp only [Int.toNat_natCast, byte_get]
    refine ⟨by omega, by omega, ?_⟩
    rw [if_pos (by rw [Bool.not_eq_false'] at hok; exact hok)] <;> trivial

def S35 : Am.Spec := { sig := sig35, pre := fun ⟨x0, _⟩ => P35 x0, res := fun ⟨x0, _⟩ => [⟨Ty.bool, g35_0 x0⟩] }
theorem con35 : Contract Try.prog 35 S35 := contract_of Try.func35 hb35 (Nat.le_of_ble_eq_true (by kernel_rfl)) (fun ⟨x0, _⟩ h hwf w0 O q =>
  (snd35 _).1 x0 _ (top35 x0 hwf.1) w0 O q)

end Go.Proofs.Ytakodkjcmacofaa

/- Function 36 (spec.l29Before): its runs between cut points. Written by a program of this repo (gen). -/
set_option linter.unusedVariables false
set_option linter.unusedSimpArgs false
set_option maxRecDepth 100000
namespace Go.Proofs.Ytakodkjcmacofaa
open Go Go.Am Go.Proofs
def ext36 : Ext := []
theorem ext36Ok : ExtOk Try.prog ext36 := trivial
/-! Function 36. -/
noncomputable def b36 : Code := bodyOf Try.f36
theorem hb36 : Try.f36.body = some b36 := by kernel_rfl
def sig36 : List AT := [AT.p (Ty.cons Ty.str (Ty.cons Ty.str (Ty.cons Ty.str Ty.unit))), AT.p (Ty.cons Ty.str (Ty.cons Ty.str (Ty.cons Ty.str Ty.unit)))]
def tys36 : List Ty := [Ty.bool]
def P36 (x0 : ByteArray × ByteArray × ByteArray × Unit) (x1 : ByteArray × ByteArray × ByteArray × Unit) : Prop := True
def g36_0 (x0 : ByteArray × ByteArray × ByteArray × Unit) (x1 : ByteArray × ByteArray × ByteArray × Unit) : Bool := (if (Op.bytesLess (ByteArray.toList (Prod.fst x0)) (ByteArray.toList (Prod.fst x1))) = true then Bool.true else (if (ByteArray.toList (Prod.fst x0) == ByteArray.toList (Prod.fst x1)) = true then Op.bytesLess (ByteArray.toList (Prod.fst (Prod.snd x0))) (ByteArray.toList (Prod.fst (Prod.snd x1))) else Bool.false))
theorem p36_0 (x0 : ByteArray × ByteArray × ByteArray × Unit) (x1 : ByteArray × ByteArray × ByteArray × Unit) : runF tab ext36 false 36 [] 2000 [] tys36 Try.f36.results [true] [.code b36] (entE 0 0 sig36 (x0, x1, ())) (entL sig36 (x0, x1, ())) = some ([Dyn.mk Ty.bool Bool.true], [], [Op.bytesLess (ByteArray.toList (Prod.fst x0)) (ByteArray.toList (Prod.fst x1)) = Bool.true]) := by kernel_rfl
theorem p36_1 (x0 : ByteArray × ByteArray × ByteArray × Unit) (x1 : ByteArray × ByteArray × ByteArray × Unit) : runF tab ext36 false 36 [] 2000 [] tys36 Try.f36.results [false, true] [.code b36] (entE 0 0 sig36 (x0, x1, ())) (entL sig36 (x0, x1, ())) = some ([Dyn.mk Ty.bool (Op.bytesLess (ByteArray.toList (Prod.fst (Prod.snd x0))) (ByteArray.toList (Prod.fst (Prod.snd x1))))], [], [Op.bytesLess (ByteArray.toList (Prod.fst x0)) (ByteArray.toList (Prod.fst x1)) = Bool.false, (ByteArray.toList (Prod.fst x0) == ByteArray.toList (Prod.fst x1)) = Bool.true]) := by kernel_rfl
theorem p36_2 (x0 : ByteArray × ByteArray × ByteArray × Unit) (x1 : ByteArray × ByteArray × ByteArray × Unit) : runF tab ext36 false 36 [] 2000 [] tys36 Try.f36.results [false, false] [.code b36] (entE 0 0 sig36 (x0, x1, ())) (entL sig36 (x0, x1, ())) = some ([Dyn.mk Ty.bool Bool.false], [], [Op.bytesLess (ByteArray.toList (Prod.fst x0)) (ByteArray.toList (Prod.fst x1)) = Bool.false, (ByteArray.toList (Prod.fst x0) == ByteArray.toList (Prod.fst x1)) = Bool.false]) := by kernel_rfl
theorem at36 (x0 : ByteArray × ByteArray × ByteArray × Unit) (x1 : ByteArray × ByteArray × ByteArray × Unit) (h : P36 x0 x1) (w0 : World) (O : List Nat) (q : Nat → Value) : AtV Try.prog 36 (PostR [⟨Ty.bool, g36_0 x0 x1⟩] [] [] q w0 O) 36 w0 O q [] [.code b36] (entE 0 0 sig36 (x0, x1, ())) (entL sig36 (x0, x1, ())) := by
  unfold P36 at h
  unfold g36_0
  by_cases b0 : (Op.bytesLess (ByteArray.toList (Prod.fst x0)) (ByteArray.toList (Prod.fst x1))) = true
  · try simp only [if_pos b0] at h ⊢
    exact AtV.fin Try.func36 tabOk ext36Ok mixed (p36_0 x0 x1) ⟨b0, trivial⟩
  · try simp only [if_neg b0] at h ⊢
    replace b0 := Bool.eq_false_iff.2 b0
    by_cases b1 : (ByteArray.toList (Prod.fst x0) == ByteArray.toList (Prod.fst x1)) = true
    · try simp only [if_pos b1] at h ⊢
      exact AtV.fin Try.func36 tabOk ext36Ok mixed (p36_1 x0 x1) ⟨b0, b1, trivial⟩
    · try simp only [if_neg b1] at h ⊢
      replace b1 := Bool.eq_false_iff.2 b1
      exact AtV.fin Try.func36 tabOk ext36Ok mixed (p36_2 x0 x1) ⟨b0, b1, trivial⟩

def S36 : Am.Spec := { sig := sig36, pre := fun ⟨x0, x1, _⟩ => P36 x0 x1, res := fun ⟨x0, x1, _⟩ => [⟨Ty.bool, g36_0 x0 x1⟩] }
theorem con36 : Contract Try.prog 36 S36 := contract_of Try.func36 hb36 (Nat.le_of_ble_eq_true (by kernel_rfl)) (fun ⟨x0, x1, _⟩ h _ w0 O q => at36 x0 x1 h w0 O q)


end Go.Proofs.Ytakodkjcmacofaa

/- Function 21 (spec.l29Ok): its runs between cut points. Written by a program of this repo (gen). -/
set_option linter.unusedVariables false
set_option linter.unusedSimpArgs false
set_option maxRecDepth 100000
namespace Go.Proofs.Ytakodkjcmacofaa
open Go Go.Am Go.Proofs
def ext21 : Ext := [(35, S35), (36, S36)]
theorem call21_35 : Callable Try.prog 35 := ⟨Try.f35, Try.func35, by kernel_rfl, by kernel_rfl⟩
theorem call21_36 : Callable Try.prog 36 := ⟨Try.f36, Try.func36, by kernel_rfl, by kernel_rfl⟩
theorem ext21Ok : ExtOk Try.prog ext21 := ⟨⟨call21_35, con35⟩, ⟨call21_36, con36⟩, trivial⟩
/-! Function 21. -/
noncomputable def b21 : Code := bodyOf Try.f21
theorem hb21 : Try.f21.body = some b21 := by kernel_rfl
def sig21 : List AT := [AT.v (Ty.sl (Ty.cons Ty.str (Ty.cons Ty.str (Ty.cons Ty.str Ty.unit))))]
def tys21 : List Ty := [Ty.bool]
def E21_2 (v3 : Int) (x0 : List (ByteArray × ByteArray × ByteArray × Unit)) : Env := [(0, PV.a (Atom.sl (Ty.cons Ty.str (Ty.cons Ty.str (Ty.cons Ty.str Ty.unit))) x0)), (3, PV.a (Atom.val (Value.int IntKind.i64 v3)))]
def L21_2 (v3 : Int) (x0 : List (ByteArray × ByteArray × ByteArray × Unit)) : Heap := []
mutual
def R21 : Nat → List (ByteArray × ByteArray × ByteArray × Unit) → List Dyn → Prop
  | 0, _, _ => False
  | n + 1, x0, ds => (R21_2 n (0) (x0) ds)
def R21_2 : Nat → Int → List (ByteArray × ByteArray × ByteArray × Unit) → List Dyn → Prop
  | 0, _, _, _ => False
  | n + 1, v3, x0, ds => (if (Decidable.decide (v3 < (↑(List.length x0) : Int))) = true then ((0 ≤ v3) ∧ (v3 < (↑(List.length x0) : Int)) ∧ (if (!g35_0 (List.getD x0 (Int.toNat v3) (ByteArray.empty, ByteArray.empty, ByteArray.empty, ()))) = true then (ds = [Dyn.mk Ty.bool Bool.false]) else (if (Decidable.decide (v3 > 0)) = true then ((InR IntKind.i64 (v3 - 1)) ∧ ((0 ≤ v3 - 1) ∧ (v3 - 1 < (↑(List.length x0) : Int)) ∧ ((0 ≤ v3) ∧ (v3 < (↑(List.length x0) : Int)) ∧ (if (!g36_0 (List.getD x0 (Int.toNat (v3 - 1)) (ByteArray.empty, ByteArray.empty, ByteArray.empty, ())) (List.getD x0 (Int.toNat v3) (ByteArray.empty, ByteArray.empty, ByteArray.empty, ()))) = true then (ds = [Dyn.mk Ty.bool Bool.false]) else ((InR IntKind.i64 (v3 + 1)) ∧ (R21_2 n (v3 + 1) (x0) ds)))))) else ((InR IntKind.i64 (v3 + 1)) ∧ (R21_2 n (v3 + 1) (x0) ds))))) else (ds = [Dyn.mk Ty.bool (Decidable.decide ((↑(List.length x0) : Int) ≤ 32))]))
end
theorem p21_0 (x0 : List (ByteArray × ByteArray × ByteArray × Unit)) : Am.runN tab ext21 false 33 [] 2000 [] [] [0, 3] [] [] [.code b21] (entE 0 0 sig21 (x0, ())) (entL sig21 (x0, ())) = some (cutAt b21 2, E21_2 (0) (x0), L21_2 (0) (x0), []) := by kernel_rfl
theorem p21_1 (v3 : Int) (x0 : List (ByteArray × ByteArray × ByteArray × Unit)) : runF tab ext21 false 33 [] 2000 [] tys21 Try.f21.results [true, true, true] (cutAt b21 2) (E21_2 v3 x0) (L21_2 v3 x0) = some ([Dyn.mk Ty.bool Bool.false], [], [Decidable.decide (v3 < (↑(List.length x0) : Int)) = Bool.true, 0 ≤ v3, v3 < (↑(List.length x0) : Int), True, (!g35_0 (List.getD x0 (Int.toNat v3) (ByteArray.empty, ByteArray.empty, ByteArray.empty, ()))) = Bool.true, Bool.true = Bool.true]) := by kernel_rfl
theorem p21_2 (v3 : Int) (x0 : List (ByteArray × ByteArray × ByteArray × Unit)) : runF tab ext21 false 33 [] 2000 [] tys21 Try.f21.results [true, false, true, true] (cutAt b21 2) (E21_2 v3 x0) (L21_2 v3 x0) = some ([Dyn.mk Ty.bool Bool.false], [], [Decidable.decide (v3 < (↑(List.length x0) : Int)) = Bool.true, 0 ≤ v3, v3 < (↑(List.length x0) : Int), True, (!g35_0 (List.getD x0 (Int.toNat v3) (ByteArray.empty, ByteArray.empty, ByteArray.empty, ()))) = Bool.false, Decidable.decide (v3 > 0) = Bool.true, InR IntKind.i64 (v3 - 1), 0 ≤ v3 - 1, v3 - 1 < (↑(List.length x0) : Int), 0 ≤ v3, v3 < (↑(List.length x0) : Int), True, (!g36_0 (List.getD x0 (Int.toNat (v3 - 1)) (ByteArray.empty, ByteArray.empty, ByteArray.empty, ())) (List.getD x0 (Int.toNat v3) (ByteArray.empty, ByteArray.empty, ByteArray.empty, ()))) = Bool.true]) := by kernel_rfl
theorem p21_3 (v3 : Int) (x0 : List (ByteArray × ByteArray × ByteArray × Unit)) : Am.runN tab ext21 false 33 [] 2000 [] [] [0, 3] [] [true, false, true, false] (cutAt b21 2) (E21_2 v3 x0) (L21_2 v3 x0) = some (cutAt b21 2, E21_2 (v3 + 1) (x0), L21_2 (v3 + 1) (x0), [Decidable.decide (v3 < (↑(List.length x0) : Int)) = Bool.true, 0 ≤ v3, v3 < (↑(List.length x0) : Int), True, (!g35_0 (List.getD x0 (Int.toNat v3) (ByteArray.empty, ByteArray.empty, ByteArray.empty, ()))) = Bool.false, Decidable.decide (v3 > 0) = Bool.true, InR IntKind.i64 (v3 - 1), 0 ≤ v3 - 1, v3 - 1 < (↑(List.length x0) : Int), 0 ≤ v3, v3 < (↑(List.length x0) : Int), True, (!g36_0 (List.getD x0 (Int.toNat (v3 - 1)) (ByteArray.empty, ByteArray.empty, ByteArray.empty, ())) (List.getD x0 (Int.toNat v3) (ByteArray.empty, ByteArray.empty, ByteArray.empty, ()))) = Bool.false, InR IntKind.i64 (v3 + 1)]) := by kernel_rfl
theorem p21_4 (v3 : Int) (x0 : List (ByteArray × ByteArray × ByteArray × Unit)) : Am.runN tab ext21 false 33 [] 2000 [] [] [0, 3] [] [true, false, false, false] (cutAt b21 2) (E21_2 v3 x0) (L21_2 v3 x0) = some (cutAt b21 2, E21_2 (v3 + 1) (x0), L21_2 (v3 + 1) (x0), [Decidable.decide (v3 < (↑(List.length x0) : Int)) = Bool.true, 0 ≤ v3, v3 < (↑(List.length x0) : Int), True, (!g35_0 (List.getD x0 (Int.toNat v3) (ByteArray.empty, ByteArray.empty, ByteArray.empty, ()))) = Bool.false, Decidable.decide (v3 > 0) = Bool.false, Bool.false = Bool.false, InR IntKind.i64 (v3 + 1)]) := by kernel_rfl
theorem p21_5 (v3 : Int) (x0 : List (ByteArray × ByteArray × ByteArray × Unit)) : runF tab ext21 false 33 [] 2000 [] tys21 Try.f21.results [false] (cutAt b21 2) (E21_2 v3 x0) (L21_2 v3 x0) = some ([Dyn.mk Ty.bool (Decidable.decide ((↑(List.length x0) : Int) ≤ 32))], [], [Decidable.decide (v3 < (↑(List.length x0) : Int)) = Bool.false]) := by kernel_rfl
theorem snd21 : ∀ n, (∀ (x0 : List (ByteArray × ByteArray × ByteArray × Unit)) ds, R21 n x0 ds → ∀ w0 O q, AtV Try.prog 21 (PostR ds [] [] q w0 O) 33 w0 O q [] [.code b21] (entE 0 0 sig21 (x0, ())) (entL sig21 (x0, ()))) ∧ (∀ (v3 : Int) (x0 : List (ByteArray × ByteArray × ByteArray × Unit)) ds, R21_2 n v3 x0 ds → ∀ w0 O q, AtV Try.prog 21 (PostR ds [] [] q w0 O) 33 w0 O q [] (cutAt b21 2) (E21_2 v3 x0) (L21_2 v3 x0)) := by
  intro n
  induction n with
  | zero => exact ⟨fun _ _ h => by simp only [R21] at h, fun _ _ _ h => by simp only [R21_2] at h⟩
  | succ n ih =>
  obtain ⟨ih, ih2⟩ := ih
  refine ⟨?_, ?_⟩
  · intro x0 ds h w0 O q
    rw [R21] at h
    exact AtV.runN tabOk ext21Ok mixed (p21_0 x0) trivial (ih2 _ _ _ h w0 O q)

  · intro v3 x0 ds h w0 O q
    rw [R21_2] at h
    by_cases b0 : (Decidable.decide (v3 < (↑(List.length x0) : Int))) = true
    · rw [if_pos b0] at h
      obtain ⟨s0, s1, h⟩ := h
      by_cases b1 : (!g35_0 (List.getD x0 (Int.toNat v3) (ByteArray.empty, ByteArray.empty, ByteArray.empty, ()))) = true
      · rw [if_pos b1] at h
        subst h
        exact AtV.fin Try.func21 tabOk ext21Ok mixed (p21_1 v3 x0) ⟨b0, s0, s1, trivial, b1, rfl, trivial⟩
      · rw [if_neg b1] at h
        replace b1 := Bool.eq_false_iff.2 b1
        by_cases b2 : (Decidable.decide (v3 > 0)) = true
        · rw [if_pos b2] at h
          obtain ⟨s2, h⟩ := h
          obtain ⟨s3, s4, h⟩ := h
          obtain ⟨s5, s6, h⟩ := h
          by_cases b3 : (!g36_0 (List.getD x0 (Int.toNat (v3 - 1)) (ByteArray.empty, ByteArray.empty, ByteArray.empty, ())) (List.getD x0 (Int.toNat v3) (ByteArray.empty, ByteArray.empty, ByteArray.empty, ()))) = true
          · rw [if_pos b3] at h
            subst h
            exact AtV.fin Try.func21 tabOk ext21Ok mixed (p21_2 v3 x0) ⟨b0, s0, s1, trivial, b1, b2, s2, s3, s4, s5, s6, trivial, b3, trivial⟩
          · rw [if_neg b3] at h
            replace b3 := Bool.eq_false_iff.2 b3
            obtain ⟨s7, h⟩ := h
            exact AtV.runN tabOk ext21Ok mixed (p21_3 v3 x0) ⟨b0, s0, s1, trivial, b1, b2, s2, s3, s4, s5, s6, trivial, b3, s7, trivial⟩ (ih2 _ _ _ h w0 O q)
        · rw [if_neg b2] at h
          replace b2 := Bool.eq_false_iff.2 b2
          obtain ⟨s2, h⟩ := h
          exact AtV.runN tabOk ext21Ok mixed (p21_4 v3 x0) ⟨b0, s0, s1, trivial, b1, b2, rfl, s2, trivial⟩ (ih2 _ _ _ h w0 O q)
    · rw [if_neg b0] at h
      replace b0 := Bool.eq_false_iff.2 b0
      subst h
      exact AtV.fin Try.func21 tabOk ext21Ok mixed (p21_5 v3 x0) ⟨b0, trivial⟩



/-- A block at its place. -/
def ok21 (x0 : List (ByteArray × ByteArray × ByteArray × Unit)) (i : Nat) (x : ByteArray × ByteArray × ByteArray × Unit) : Bool :=
  g35_0 x && (i == 0 || g36_0 (x0.getD (i - 1) (ByteArray.empty, ByteArray.empty, ByteArray.empty, ())) x)
def g21_0 (x0 : List (ByteArray × ByteArray × ByteArray × Unit)) : Bool := allI (ok21 x0) 0 x0 && decide (x0.length ≤ 32)
def P21 (x0 : List (ByteArray × ByteArray × ByteArray × Unit)) : Prop := True

theorem step21 (n i : Nat) (x0 : List (ByteArray × ByteArray × ByteArray × Unit)) (hm : x0.length ≤ maxLen) (hi : i < x0.length) (ds : List Dyn) :
    (if ok21 x0 i (x0.getD i (ByteArray.empty, ByteArray.empty, ByteArray.empty, ())) = true then R21_2 n ((i : Int) + 1) x0 ds else ds = [⟨.bool, false⟩]) → R21_2 (n + 1) (i : Int) x0 ds := by
  intro h
  have hu := inR_up hm hi
  rw [R21_2, if_pos (by simp; omega)]
  refine ⟨by omega, by omega, ?_⟩
  simp only [Int.toNat_natCast]
  unfold ok21 at h
  cases h1 : g35_0 (x0.getD i (ByteArray.empty, ByteArray.empty, ByteArray.empty, ())) with
  | false =>
    rw [h1] at h
    rw [if_pos (by rfl)]
    simpa using h
  | true =>
    rw [h1] at h
    rw [if_neg (by simp)]
    by_cases h0 : (i : Int) > 0
    · rw [if_pos (by simpa using h0)]
      have hi0 : (i == 0) = false := by simp; omega
      have e : ((i : Int) - 1).toNat = i - 1 := by omega
      refine ⟨by rw [i64_iff]; have : maxLen ≤ 9223372036854775807 := by decide
                 omega, by omega, by omega, by omega, by omega, ?_⟩
      rw [e]
      by_cases h2 : g36_0 (x0.getD (i - 1) (ByteArray.empty, ByteArray.empty, ByteArray.empty, ())) (x0.getD i (ByteArray.empty, ByteArray.empty, ByteArray.empty, ())) = true
      · rw [h2, hi0] at h
        rw [if_neg (by rw [h2]; simp)]
        exact ⟨hu, by simpa using h⟩
      · have h2 := Bool.eq_false_iff.2 h2
        rw [h2, hi0] at h
        rw [if_pos (by rw [h2]; rfl)]
        simpa using h
    · rw [if_neg (by simpa using h0)]
      have hi0 : (i == 0) = true := by simp; omega
      rw [hi0] at h
      exact ⟨hu, by simpa using h⟩

theorem top21 (x0 : List (ByteArray × ByteArray × ByteArray × Unit)) (hw : x0.length ≤ maxLen) : R21 (x0.length + 1 + 1) x0 [⟨.bool, g21_0 x0⟩] := by
  rw [R21]
  have key := loop_testI x0 (ByteArray.empty, ByteArray.empty, ByteArray.empty, ()) (ok21 x0) [(⟨.bool, false⟩ : Dyn)] [⟨.bool, decide (x0.length ≤ 32)⟩] (fun n i ds => R21_2 n i x0 ds) (fun n => ?_) (fun n i hi hok ds hr => ?_) (fun n i hi hok => ?_)
  · unfold g21_0
    cases h : allI (ok21 x0) 0 x0 with
    | true => rw [if_pos h] at key; simpa using key
    | false => rw [if_neg (by rw [h]; simp)] at key; simpa using key
  · rw [R21_2, if_neg (by simp)]
    have hc : decide ((x0.length : Int) ≤ 32) = decide (x0.length ≤ 32) := by
      congr 1; exact propext ⟨fun h => by omega, fun h => by omega⟩
    rw [hc]
  · exact step21 n i x0 hw hi ds (by rw [if_pos hok]; exact hr)
  · exact step21 n i x0 hw hi _ (by rw [if_neg (by rw [hok]; simp)])

def S21 : Am.Spec := { sig := sig21, pre := fun ⟨x0, _⟩ => P21 x0, res := fun ⟨x0, _⟩ => [⟨Ty.bool, g21_0 x0⟩] }
theorem con21 : Contract Try.prog 21 S21 := contract_of Try.func21 hb21 (Nat.le_of_ble_eq_true (by kernel_rfl)) (fun ⟨x0, _⟩ h hwf w0 O q =>
  (snd21 _).1 x0 _ (top21 x0 hwf.1.1) w0 O q)

end Go.Proofs.Ytakodkjcmacofaa

/- Function 22 (spec.l29Put): its runs between cut points. Written by a program of this repo (gen). -/
set_option linter.unusedVariables false
set_option linter.unusedSimpArgs false
set_option maxRecDepth 100000
namespace Go.Proofs.Ytakodkjcmacofaa
open Go Go.Am Go.Proofs
def ext22 : Ext := [(36, S36)]
theorem call22_36 : Callable Try.prog 36 := ⟨Try.f36, Try.func36, by kernel_rfl, by kernel_rfl⟩
theorem ext22Ok : ExtOk Try.prog ext22 := ⟨⟨call22_36, con36⟩, trivial⟩
/-! Function 22. -/
noncomputable def b22 : Code := bodyOf Try.f22
theorem hb22 : Try.f22.body = some b22 := by kernel_rfl
def sig22 : List AT := [AT.v (Ty.sl (Ty.cons Ty.str (Ty.cons Ty.str (Ty.cons Ty.str Ty.unit)))), AT.v (Ty.cons Ty.str (Ty.cons Ty.str (Ty.cons Ty.str Ty.unit)))]
def tys22 : List Ty := [Ty.sl (Ty.cons Ty.str (Ty.cons Ty.str (Ty.cons Ty.str Ty.unit)))]
def E22_4 (v6 : Bool) (v7 : Int) (h1 : List (ByteArray × ByteArray × ByteArray × Unit)) (x0 : List (ByteArray × ByteArray × ByteArray × Unit)) (x1 : ByteArray × ByteArray × ByteArray × Unit) : Env := [(0, PV.a (Atom.sl (Ty.cons Ty.str (Ty.cons Ty.str (Ty.cons Ty.str Ty.unit))) x0)), (3, PV.a (Atom.optr 0 0 [])), (5, PV.a (Atom.osl 1 Option.none)), (6, PV.a (Atom.val (Value.bool v6))), (7, PV.a (Atom.val (Value.int IntKind.i64 v7)))]
def L22_4 (v6 : Bool) (v7 : Int) (h1 : List (ByteArray × ByteArray × ByteArray × Unit)) (x0 : List (ByteArray × ByteArray × ByteArray × Unit)) (x1 : ByteArray × ByteArray × ByteArray × Unit) : Heap := [Option.some (Arr.mk (Ty.cons Ty.str (Ty.cons Ty.str (Ty.cons Ty.str Ty.unit))) [x1] Bool.true), Option.some (Arr.mk (Ty.cons Ty.str (Ty.cons Ty.str (Ty.cons Ty.str Ty.unit))) h1 Bool.false)]
mutual
def R22 : Nat → List (ByteArray × ByteArray × ByteArray × Unit) → ByteArray × ByteArray × ByteArray × Unit → List Dyn → Prop
  | 0, _, _, _ => False
  | n + 1, x0, x1, ds => (R22_4 n (Bool.false) (0) ([]) (x0) (x1) ds)
def R22_4 : Nat → Bool → Int → List (ByteArray × ByteArray × ByteArray × Unit) → List (ByteArray × ByteArray × ByteArray × Unit) → ByteArray × ByteArray × ByteArray × Unit → List Dyn → Prop
  | 0, _, _, _, _, _, _ => False
  | n + 1, v6, v7, h1, x0, x1, ds => (if (Decidable.decide (v7 < (↑(List.length x0) : Int))) = true then (if (!v6) = true then ((0 ≤ v7) ∧ (v7 < (↑(List.length x0) : Int)) ∧ (if (!g36_0 (List.getD x0 (Int.toNat v7) (ByteArray.empty, ByteArray.empty, ByteArray.empty, ())) x1) = true then (((List.length h1 + 1) * 48 ≤ 140737488355328) ∧ ((0 ≤ v7) ∧ (v7 < (↑(List.length x0) : Int)) ∧ (if (!ByteArray.toList (Prod.fst (List.getD x0 (Int.toNat v7) (ByteArray.empty, ByteArray.empty, ByteArray.empty, ()))) == ByteArray.toList (Prod.fst x1)) = true then ((0 ≤ v7) ∧ (v7 < (↑(List.length x0) : Int)) ∧ (((List.length (h1 ++ [x1]) + 1) * 48 ≤ 140737488355328) ∧ ((InR IntKind.i64 (v7 + 1)) ∧ (R22_4 n (Bool.true) (v7 + 1) (h1 ++ [x1] ++ [List.getD x0 (Int.toNat v7) (ByteArray.empty, ByteArray.empty, ByteArray.empty, ())]) (x0) (x1) ds)))) else ((0 ≤ v7) ∧ (v7 < (↑(List.length x0) : Int)) ∧ (if (!ByteArray.toList (Prod.fst (Prod.snd (List.getD x0 (Int.toNat v7) (ByteArray.empty, ByteArray.empty, ByteArray.empty, ())))) == ByteArray.toList (Prod.fst (Prod.snd x1))) = true then ((0 ≤ v7) ∧ (v7 < (↑(List.length x0) : Int)) ∧ (((List.length (h1 ++ [x1]) + 1) * 48 ≤ 140737488355328) ∧ ((InR IntKind.i64 (v7 + 1)) ∧ (R22_4 n (Bool.true) (v7 + 1) (h1 ++ [x1] ++ [List.getD x0 (Int.toNat v7) (ByteArray.empty, ByteArray.empty, ByteArray.empty, ())]) (x0) (x1) ds)))) else ((InR IntKind.i64 (v7 + 1)) ∧ (R22_4 n (Bool.true) (v7 + 1) (h1 ++ [x1]) (x0) (x1) ds))))))) else ((0 ≤ v7) ∧ (v7 < (↑(List.length x0) : Int)) ∧ (if (!ByteArray.toList (Prod.fst (List.getD x0 (Int.toNat v7) (ByteArray.empty, ByteArray.empty, ByteArray.empty, ()))) == ByteArray.toList (Prod.fst x1)) = true then ((0 ≤ v7) ∧ (v7 < (↑(List.length x0) : Int)) ∧ (((List.length h1 + 1) * 48 ≤ 140737488355328) ∧ ((InR IntKind.i64 (v7 + 1)) ∧ (R22_4 n (v6) (v7 + 1) (h1 ++ [List.getD x0 (Int.toNat v7) (ByteArray.empty, ByteArray.empty, ByteArray.empty, ())]) (x0) (x1) ds)))) else ((0 ≤ v7) ∧ (v7 < (↑(List.length x0) : Int)) ∧ (if (!ByteArray.toList (Prod.fst (Prod.snd (List.getD x0 (Int.toNat v7) (ByteArray.empty, ByteArray.empty, ByteArray.empty, ())))) == ByteArray.toList (Prod.fst (Prod.snd x1))) = true then ((0 ≤ v7) ∧ (v7 < (↑(List.length x0) : Int)) ∧ (((List.length h1 + 1) * 48 ≤ 140737488355328) ∧ ((InR IntKind.i64 (v7 + 1)) ∧ (R22_4 n (v6) (v7 + 1) (h1 ++ [List.getD x0 (Int.toNat v7) (ByteArray.empty, ByteArray.empty, ByteArray.empty, ())]) (x0) (x1) ds)))) else ((InR IntKind.i64 (v7 + 1)) ∧ (R22_4 n (v6) (v7 + 1) (h1) (x0) (x1) ds)))))))) else ((0 ≤ v7) ∧ (v7 < (↑(List.length x0) : Int)) ∧ (if (!ByteArray.toList (Prod.fst (List.getD x0 (Int.toNat v7) (ByteArray.empty, ByteArray.empty, ByteArray.empty, ()))) == ByteArray.toList (Prod.fst x1)) = true then ((0 ≤ v7) ∧ (v7 < (↑(List.length x0) : Int)) ∧ (((List.length h1 + 1) * 48 ≤ 140737488355328) ∧ ((InR IntKind.i64 (v7 + 1)) ∧ (R22_4 n (v6) (v7 + 1) (h1 ++ [List.getD x0 (Int.toNat v7) (ByteArray.empty, ByteArray.empty, ByteArray.empty, ())]) (x0) (x1) ds)))) else ((0 ≤ v7) ∧ (v7 < (↑(List.length x0) : Int)) ∧ (if (!ByteArray.toList (Prod.fst (Prod.snd (List.getD x0 (Int.toNat v7) (ByteArray.empty, ByteArray.empty, ByteArray.empty, ())))) == ByteArray.toList (Prod.fst (Prod.snd x1))) = true then ((0 ≤ v7) ∧ (v7 < (↑(List.length x0) : Int)) ∧ (((List.length h1 + 1) * 48 ≤ 140737488355328) ∧ ((InR IntKind.i64 (v7 + 1)) ∧ (R22_4 n (v6) (v7 + 1) (h1 ++ [List.getD x0 (Int.toNat v7) (ByteArray.empty, ByteArray.empty, ByteArray.empty, ())]) (x0) (x1) ds)))) else ((InR IntKind.i64 (v7 + 1)) ∧ (R22_4 n (v6) (v7 + 1) (h1) (x0) (x1) ds))))))) else (if (!v6) = true then (((List.length h1 + 1) * 48 ≤ 140737488355328) ∧ (ds = [Dyn.mk (Ty.sl (Ty.cons Ty.str (Ty.cons Ty.str (Ty.cons Ty.str Ty.unit)))) (h1 ++ [x1])])) else (ds = [Dyn.mk (Ty.sl (Ty.cons Ty.str (Ty.cons Ty.str (Ty.cons Ty.str Ty.unit)))) h1])))
end
theorem p22_0 (x0 : List (ByteArray × ByteArray × ByteArray × Unit)) (x1 : ByteArray × ByteArray × ByteArray × Unit) : Am.runN tab ext22 false 60 [] 2000 [] [] [0, 3, 5, 6, 7] [0, 1] [] [.code b22] (entE 0 0 sig22 (x0, x1, ())) (entL sig22 (x0, x1, ())) = some (cutAt b22 4, E22_4 (Bool.false) (0) ([]) (x0) (x1), L22_4 (Bool.false) (0) ([]) (x0) (x1), []) := by kernel_rfl
theorem p22_1 (v6 : Bool) (v7 : Int) (h1 : List (ByteArray × ByteArray × ByteArray × Unit)) (x0 : List (ByteArray × ByteArray × ByteArray × Unit)) (x1 : ByteArray × ByteArray × ByteArray × Unit) : Am.runN tab ext22 false 60 [] 2000 [] [] [0, 3, 5, 6, 7] [0, 1] [true, true, true, true, true] (cutAt b22 4) (E22_4 v6 v7 h1 x0 x1) (L22_4 v6 v7 h1 x0 x1) = some (cutAt b22 4, E22_4 (Bool.true) (v7 + 1) (h1 ++ [x1] ++ [List.getD x0 (Int.toNat v7) (ByteArray.empty, ByteArray.empty, ByteArray.empty, ())]) (x0) (x1), L22_4 (Bool.true) (v7 + 1) (h1 ++ [x1] ++ [List.getD x0 (Int.toNat v7) (ByteArray.empty, ByteArray.empty, ByteArray.empty, ())]) (x0) (x1), [Decidable.decide (v7 < (↑(List.length x0) : Int)) = Bool.true, (!v6) = Bool.true, 0 ≤ v7, v7 < (↑(List.length x0) : Int), True, (!g36_0 (List.getD x0 (Int.toNat v7) (ByteArray.empty, ByteArray.empty, ByteArray.empty, ())) x1) = Bool.true, (List.length h1 + 1) * 48 ≤ 140737488355328, 0 ≤ v7, v7 < (↑(List.length x0) : Int), (!ByteArray.toList (Prod.fst (List.getD x0 (Int.toNat v7) (ByteArray.empty, ByteArray.empty, ByteArray.empty, ()))) == ByteArray.toList (Prod.fst x1)) = Bool.true, Bool.true = Bool.true, 0 ≤ v7, v7 < (↑(List.length x0) : Int), (List.length (h1 ++ [x1]) + 1) * 48 ≤ 140737488355328, InR IntKind.i64 (v7 + 1)]) := by kernel_rfl
theorem p22_2 (v6 : Bool) (v7 : Int) (h1 : List (ByteArray × ByteArray × ByteArray × Unit)) (x0 : List (ByteArray × ByteArray × ByteArray × Unit)) (x1 : ByteArray × ByteArray × ByteArray × Unit) : Am.runN tab ext22 false 60 [] 2000 [] [] [0, 3, 5, 6, 7] [0, 1] [true, true, true, false, true] (cutAt b22 4) (E22_4 v6 v7 h1 x0 x1) (L22_4 v6 v7 h1 x0 x1) = some (cutAt b22 4, E22_4 (Bool.true) (v7 + 1) (h1 ++ [x1] ++ [List.getD x0 (Int.toNat v7) (ByteArray.empty, ByteArray.empty, ByteArray.empty, ())]) (x0) (x1), L22_4 (Bool.true) (v7 + 1) (h1 ++ [x1] ++ [List.getD x0 (Int.toNat v7) (ByteArray.empty, ByteArray.empty, ByteArray.empty, ())]) (x0) (x1), [Decidable.decide (v7 < (↑(List.length x0) : Int)) = Bool.true, (!v6) = Bool.true, 0 ≤ v7, v7 < (↑(List.length x0) : Int), True, (!g36_0 (List.getD x0 (Int.toNat v7) (ByteArray.empty, ByteArray.empty, ByteArray.empty, ())) x1) = Bool.true, (List.length h1 + 1) * 48 ≤ 140737488355328, 0 ≤ v7, v7 < (↑(List.length x0) : Int), (!ByteArray.toList (Prod.fst (List.getD x0 (Int.toNat v7) (ByteArray.empty, ByteArray.empty, ByteArray.empty, ()))) == ByteArray.toList (Prod.fst x1)) = Bool.false, 0 ≤ v7, v7 < (↑(List.length x0) : Int), (!ByteArray.toList (Prod.fst (Prod.snd (List.getD x0 (Int.toNat v7) (ByteArray.empty, ByteArray.empty, ByteArray.empty, ())))) == ByteArray.toList (Prod.fst (Prod.snd x1))) = Bool.true, 0 ≤ v7, v7 < (↑(List.length x0) : Int), (List.length (h1 ++ [x1]) + 1) * 48 ≤ 140737488355328, InR IntKind.i64 (v7 + 1)]) := by kernel_rfl
theorem p22_3 (v6 : Bool) (v7 : Int) (h1 : List (ByteArray × ByteArray × ByteArray × Unit)) (x0 : List (ByteArray × ByteArray × ByteArray × Unit)) (x1 : ByteArray × ByteArray × ByteArray × Unit) : Am.runN tab ext22 false 60 [] 2000 [] [] [0, 3, 5, 6, 7] [0, 1] [true, true, true, false, false] (cutAt b22 4) (E22_4 v6 v7 h1 x0 x1) (L22_4 v6 v7 h1 x0 x1) = some (cutAt b22 4, E22_4 (Bool.true) (v7 + 1) (h1 ++ [x1]) (x0) (x1), L22_4 (Bool.true) (v7 + 1) (h1 ++ [x1]) (x0) (x1), [Decidable.decide (v7 < (↑(List.length x0) : Int)) = Bool.true, (!v6) = Bool.true, 0 ≤ v7, v7 < (↑(List.length x0) : Int), True, (!g36_0 (List.getD x0 (Int.toNat v7) (ByteArray.empty, ByteArray.empty, ByteArray.empty, ())) x1) = Bool.true, (List.length h1 + 1) * 48 ≤ 140737488355328, 0 ≤ v7, v7 < (↑(List.length x0) : Int), (!ByteArray.toList (Prod.fst (List.getD x0 (Int.toNat v7) (ByteArray.empty, ByteArray.empty, ByteArray.empty, ()))) == ByteArray.toList (Prod.fst x1)) = Bool.false, 0 ≤ v7, v7 < (↑(List.length x0) : Int), (!ByteArray.toList (Prod.fst (Prod.snd (List.getD x0 (Int.toNat v7) (ByteArray.empty, ByteArray.empty, ByteArray.empty, ())))) == ByteArray.toList (Prod.fst (Prod.snd x1))) = Bool.false, InR IntKind.i64 (v7 + 1)]) := by kernel_rfl
theorem p22_4 (v6 : Bool) (v7 : Int) (h1 : List (ByteArray × ByteArray × ByteArray × Unit)) (x0 : List (ByteArray × ByteArray × ByteArray × Unit)) (x1 : ByteArray × ByteArray × ByteArray × Unit) : Am.runN tab ext22 false 60 [] 2000 [] [] [0, 3, 5, 6, 7] [0, 1] [true, true, false, true, true] (cutAt b22 4) (E22_4 v6 v7 h1 x0 x1) (L22_4 v6 v7 h1 x0 x1) = some (cutAt b22 4, E22_4 (v6) (v7 + 1) (h1 ++ [List.getD x0 (Int.toNat v7) (ByteArray.empty, ByteArray.empty, ByteArray.empty, ())]) (x0) (x1), L22_4 (v6) (v7 + 1) (h1 ++ [List.getD x0 (Int.toNat v7) (ByteArray.empty, ByteArray.empty, ByteArray.empty, ())]) (x0) (x1), [Decidable.decide (v7 < (↑(List.length x0) : Int)) = Bool.true, (!v6) = Bool.true, 0 ≤ v7, v7 < (↑(List.length x0) : Int), True, (!g36_0 (List.getD x0 (Int.toNat v7) (ByteArray.empty, ByteArray.empty, ByteArray.empty, ())) x1) = Bool.false, 0 ≤ v7, v7 < (↑(List.length x0) : Int), (!ByteArray.toList (Prod.fst (List.getD x0 (Int.toNat v7) (ByteArray.empty, ByteArray.empty, ByteArray.empty, ()))) == ByteArray.toList (Prod.fst x1)) = Bool.true, Bool.true = Bool.true, 0 ≤ v7, v7 < (↑(List.length x0) : Int), (List.length h1 + 1) * 48 ≤ 140737488355328, InR IntKind.i64 (v7 + 1)]) := by kernel_rfl
theorem p22_5 (v6 : Bool) (v7 : Int) (h1 : List (ByteArray × ByteArray × ByteArray × Unit)) (x0 : List (ByteArray × ByteArray × ByteArray × Unit)) (x1 : ByteArray × ByteArray × ByteArray × Unit) : Am.runN tab ext22 false 60 [] 2000 [] [] [0, 3, 5, 6, 7] [0, 1] [true, true, false, false, true] (cutAt b22 4) (E22_4 v6 v7 h1 x0 x1) (L22_4 v6 v7 h1 x0 x1) = some (cutAt b22 4, E22_4 (v6) (v7 + 1) (h1 ++ [List.getD x0 (Int.toNat v7) (ByteArray.empty, ByteArray.empty, ByteArray.empty, ())]) (x0) (x1), L22_4 (v6) (v7 + 1) (h1 ++ [List.getD x0 (Int.toNat v7) (ByteArray.empty, ByteArray.empty, ByteArray.empty, ())]) (x0) (x1), [Decidable.decide (v7 < (↑(List.length x0) : Int)) = Bool.true, (!v6) = Bool.true, 0 ≤ v7, v7 < (↑(List.length x0) : Int), True, (!g36_0 (List.getD x0 (Int.toNat v7) (ByteArray.empty, ByteArray.empty, ByteArray.empty, ())) x1) = Bool.false, 0 ≤ v7, v7 < (↑(List.length x0) : Int), (!ByteArray.toList (Prod.fst (List.getD x0 (Int.toNat v7) (ByteArray.empty, ByteArray.empty, ByteArray.empty, ()))) == ByteArray.toList (Prod.fst x1)) = Bool.false, 0 ≤ v7, v7 < (↑(List.length x0) : Int), (!ByteArray.toList (Prod.fst (Prod.snd (List.getD x0 (Int.toNat v7) (ByteArray.empty, ByteArray.empty, ByteArray.empty, ())))) == ByteArray.toList (Prod.fst (Prod.snd x1))) = Bool.true, 0 ≤ v7, v7 < (↑(List.length x0) : Int), (List.length h1 + 1) * 48 ≤ 140737488355328, InR IntKind.i64 (v7 + 1)]) := by kernel_rfl
theorem p22_6 (v6 : Bool) (v7 : Int) (h1 : List (ByteArray × ByteArray × ByteArray × Unit)) (x0 : List (ByteArray × ByteArray × ByteArray × Unit)) (x1 : ByteArray × ByteArray × ByteArray × Unit) : Am.runN tab ext22 false 60 [] 2000 [] [] [0, 3, 5, 6, 7] [0, 1] [true, true, false, false, false] (cutAt b22 4) (E22_4 v6 v7 h1 x0 x1) (L22_4 v6 v7 h1 x0 x1) = some (cutAt b22 4, E22_4 (v6) (v7 + 1) (h1) (x0) (x1), L22_4 (v6) (v7 + 1) (h1) (x0) (x1), [Decidable.decide (v7 < (↑(List.length x0) : Int)) = Bool.true, (!v6) = Bool.true, 0 ≤ v7, v7 < (↑(List.length x0) : Int), True, (!g36_0 (List.getD x0 (Int.toNat v7) (ByteArray.empty, ByteArray.empty, ByteArray.empty, ())) x1) = Bool.false, 0 ≤ v7, v7 < (↑(List.length x0) : Int), (!ByteArray.toList (Prod.fst (List.getD x0 (Int.toNat v7) (ByteArray.empty, ByteArray.empty, ByteArray.empty, ()))) == ByteArray.toList (Prod.fst x1)) = Bool.false, 0 ≤ v7, v7 < (↑(List.length x0) : Int), (!ByteArray.toList (Prod.fst (Prod.snd (List.getD x0 (Int.toNat v7) (ByteArray.empty, ByteArray.empty, ByteArray.empty, ())))) == ByteArray.toList (Prod.fst (Prod.snd x1))) = Bool.false, InR IntKind.i64 (v7 + 1)]) := by kernel_rfl
theorem p22_7 (v6 : Bool) (v7 : Int) (h1 : List (ByteArray × ByteArray × ByteArray × Unit)) (x0 : List (ByteArray × ByteArray × ByteArray × Unit)) (x1 : ByteArray × ByteArray × ByteArray × Unit) : Am.runN tab ext22 false 60 [] 2000 [] [] [0, 3, 5, 6, 7] [0, 1] [true, false, false, true, true] (cutAt b22 4) (E22_4 v6 v7 h1 x0 x1) (L22_4 v6 v7 h1 x0 x1) = some (cutAt b22 4, E22_4 (v6) (v7 + 1) (h1 ++ [List.getD x0 (Int.toNat v7) (ByteArray.empty, ByteArray.empty, ByteArray.empty, ())]) (x0) (x1), L22_4 (v6) (v7 + 1) (h1 ++ [List.getD x0 (Int.toNat v7) (ByteArray.empty, ByteArray.empty, ByteArray.empty, ())]) (x0) (x1), [Decidable.decide (v7 < (↑(List.length x0) : Int)) = Bool.true, (!v6) = Bool.false, Bool.false = Bool.false, 0 ≤ v7, v7 < (↑(List.length x0) : Int), (!ByteArray.toList (Prod.fst (List.getD x0 (Int.toNat v7) (ByteArray.empty, ByteArray.empty, ByteArray.empty, ()))) == ByteArray.toList (Prod.fst x1)) = Bool.true, Bool.true = Bool.true, 0 ≤ v7, v7 < (↑(List.length x0) : Int), (List.length h1 + 1) * 48 ≤ 140737488355328, InR IntKind.i64 (v7 + 1)]) := by kernel_rfl
theorem p22_8 (v6 : Bool) (v7 : Int) (h1 : List (ByteArray × ByteArray × ByteArray × Unit)) (x0 : List (ByteArray × ByteArray × ByteArray × Unit)) (x1 : ByteArray × ByteArray × ByteArray × Unit) : Am.runN tab ext22 false 60 [] 2000 [] [] [0, 3, 5, 6, 7] [0, 1] [true, false, false, false, true] (cutAt b22 4) (E22_4 v6 v7 h1 x0 x1) (L22_4 v6 v7 h1 x0 x1) = some (cutAt b22 4, E22_4 (v6) (v7 + 1) (h1 ++ [List.getD x0 (Int.toNat v7) (ByteArray.empty, ByteArray.empty, ByteArray.empty, ())]) (x0) (x1), L22_4 (v6) (v7 + 1) (h1 ++ [List.getD x0 (Int.toNat v7) (ByteArray.empty, ByteArray.empty, ByteArray.empty, ())]) (x0) (x1), [Decidable.decide (v7 < (↑(List.length x0) : Int)) = Bool.true, (!v6) = Bool.false, Bool.false = Bool.false, 0 ≤ v7, v7 < (↑(List.length x0) : Int), (!ByteArray.toList (Prod.fst (List.getD x0 (Int.toNat v7) (ByteArray.empty, ByteArray.empty, ByteArray.empty, ()))) == ByteArray.toList (Prod.fst x1)) = Bool.false, 0 ≤ v7, v7 < (↑(List.length x0) : Int), (!ByteArray.toList (Prod.fst (Prod.snd (List.getD x0 (Int.toNat v7) (ByteArray.empty, ByteArray.empty, ByteArray.empty, ())))) == ByteArray.toList (Prod.fst (Prod.snd x1))) = Bool.true, 0 ≤ v7, v7 < (↑(List.length x0) : Int), (List.length h1 + 1) * 48 ≤ 140737488355328, InR IntKind.i64 (v7 + 1)]) := by kernel_rfl
theorem p22_9 (v6 : Bool) (v7 : Int) (h1 : List (ByteArray × ByteArray × ByteArray × Unit)) (x0 : List (ByteArray × ByteArray × ByteArray × Unit)) (x1 : ByteArray × ByteArray × ByteArray × Unit) : Am.runN tab ext22 false 60 [] 2000 [] [] [0, 3, 5, 6, 7] [0, 1] [true, false, false, false, false] (cutAt b22 4) (E22_4 v6 v7 h1 x0 x1) (L22_4 v6 v7 h1 x0 x1) = some (cutAt b22 4, E22_4 (v6) (v7 + 1) (h1) (x0) (x1), L22_4 (v6) (v7 + 1) (h1) (x0) (x1), [Decidable.decide (v7 < (↑(List.length x0) : Int)) = Bool.true, (!v6) = Bool.false, Bool.false = Bool.false, 0 ≤ v7, v7 < (↑(List.length x0) : Int), (!ByteArray.toList (Prod.fst (List.getD x0 (Int.toNat v7) (ByteArray.empty, ByteArray.empty, ByteArray.empty, ()))) == ByteArray.toList (Prod.fst x1)) = Bool.false, 0 ≤ v7, v7 < (↑(List.length x0) : Int), (!ByteArray.toList (Prod.fst (Prod.snd (List.getD x0 (Int.toNat v7) (ByteArray.empty, ByteArray.empty, ByteArray.empty, ())))) == ByteArray.toList (Prod.fst (Prod.snd x1))) = Bool.false, InR IntKind.i64 (v7 + 1)]) := by kernel_rfl
theorem p22_10 (v6 : Bool) (v7 : Int) (h1 : List (ByteArray × ByteArray × ByteArray × Unit)) (x0 : List (ByteArray × ByteArray × ByteArray × Unit)) (x1 : ByteArray × ByteArray × ByteArray × Unit) : runF tab ext22 false 60 [] 2000 [] tys22 Try.f22.results [false, true] (cutAt b22 4) (E22_4 v6 v7 h1 x0 x1) (L22_4 v6 v7 h1 x0 x1) = some ([Dyn.mk (Ty.sl (Ty.cons Ty.str (Ty.cons Ty.str (Ty.cons Ty.str Ty.unit)))) (h1 ++ [x1])], [], [Decidable.decide (v7 < (↑(List.length x0) : Int)) = Bool.false, (!v6) = Bool.true, (List.length h1 + 1) * 48 ≤ 140737488355328]) := by kernel_rfl
theorem p22_11 (v6 : Bool) (v7 : Int) (h1 : List (ByteArray × ByteArray × ByteArray × Unit)) (x0 : List (ByteArray × ByteArray × ByteArray × Unit)) (x1 : ByteArray × ByteArray × ByteArray × Unit) : runF tab ext22 false 60 [] 2000 [] tys22 Try.f22.results [false, false] (cutAt b22 4) (E22_4 v6 v7 h1 x0 x1) (L22_4 v6 v7 h1 x0 x1) = some ([Dyn.mk (Ty.sl (Ty.cons Ty.str (Ty.cons Ty.str (Ty.cons Ty.str Ty.unit)))) h1], [], [Decidable.decide (v7 < (↑(List.length x0) : Int)) = Bool.false, (!v6) = Bool.false]) := by kernel_rfl
theorem snd22 : ∀ n, (∀ (x0 : List (ByteArray × ByteArray × ByteArray × Unit)) (x1 : ByteArray × ByteArray × ByteArray × Unit) ds, R22 n x0 x1 ds → ∀ w0 O q, AtV Try.prog 22 (PostR ds [] [] q w0 O) 60 w0 O q [] [.code b22] (entE 0 0 sig22 (x0, x1, ())) (entL sig22 (x0, x1, ()))) ∧ (∀ (v6 : Bool) (v7 : Int) (h1 : List (ByteArray × ByteArray × ByteArray × Unit)) (x0 : List (ByteArray × ByteArray × ByteArray × Unit)) (x1 : ByteArray × ByteArray × ByteArray × Unit) ds, R22_4 n v6 v7 h1 x0 x1 ds → ∀ w0 O q, AtV Try.prog 22 (PostR ds [] [] q w0 O) 60 w0 O q [] (cutAt b22 4) (E22_4 v6 v7 h1 x0 x1) (L22_4 v6 v7 h1 x0 x1)) := by
  intro n
  induction n with
  | zero => exact ⟨fun _ _ _ h => by simp only [R22] at h, fun _ _ _ _ _ _ h => by simp only [R22_4] at h⟩
  | succ n ih =>
  obtain ⟨ih, ih4⟩ := ih
  refine ⟨?_, ?_⟩
  · intro x0 x1 ds h w0 O q
    rw [R22] at h
    exact AtV.runN tabOk ext22Ok mixed (p22_0 x0 x1) trivial (ih4 _ _ _ _ _ _ h w0 O q)

  · intro v6 v7 h1 x0 x1 ds h w0 O q
    rw [R22_4] at h
    by_cases b0 : (Decidable.decide (v7 < (↑(List.length x0) : Int))) = true
    · rw [if_pos b0] at h
      by_cases b1 : (!v6) = true
      · rw [if_pos b1] at h
        obtain ⟨s0, s1, h⟩ := h
        by_cases b2 : (!g36_0 (List.getD x0 (Int.toNat v7) (ByteArray.empty, ByteArray.empty, ByteArray.empty, ())) x1) = true
        · rw [if_pos b2] at h
          obtain ⟨s2, h⟩ := h
          obtain ⟨s3, s4, h⟩ := h
          by_cases b3 : (!ByteArray.toList (Prod.fst (List.getD x0 (Int.toNat v7) (ByteArray.empty, ByteArray.empty, ByteArray.empty, ()))) == ByteArray.toList (Prod.fst x1)) = true
          · rw [if_pos b3] at h
            obtain ⟨s5, s6, h⟩ := h
            obtain ⟨s7, h⟩ := h
            obtain ⟨s8, h⟩ := h
            exact AtV.runN tabOk ext22Ok mixed (p22_1 v6 v7 h1 x0 x1) ⟨b0, b1, s0, s1, trivial, b2, s2, s3, s4, b3, rfl, s5, s6, s7, s8, trivial⟩ (ih4 _ _ _ _ _ _ h w0 O q)
          · rw [if_neg b3] at h
            replace b3 := Bool.eq_false_iff.2 b3
            obtain ⟨s5, s6, h⟩ := h
            by_cases b4 : (!ByteArray.toList (Prod.fst (Prod.snd (List.getD x0 (Int.toNat v7) (ByteArray.empty, ByteArray.empty, ByteArray.empty, ())))) == ByteArray.toList (Prod.fst (Prod.snd x1))) = true
            · rw [if_pos b4] at h
              obtain ⟨s7, s8, h⟩ := h
              obtain ⟨s9, h⟩ := h
              obtain ⟨s10, h⟩ := h
              exact AtV.runN tabOk ext22Ok mixed (p22_2 v6 v7 h1 x0 x1) ⟨b0, b1, s0, s1, trivial, b2, s2, s3, s4, b3, s5, s6, b4, s7, s8, s9, s10, trivial⟩ (ih4 _ _ _ _ _ _ h w0 O q)
            · rw [if_neg b4] at h
              replace b4 := Bool.eq_false_iff.2 b4
              obtain ⟨s7, h⟩ := h
              exact AtV.runN tabOk ext22Ok mixed (p22_3 v6 v7 h1 x0 x1) ⟨b0, b1, s0, s1, trivial, b2, s2, s3, s4, b3, s5, s6, b4, s7, trivial⟩ (ih4 _ _ _ _ _ _ h w0 O q)
        · rw [if_neg b2] at h
          replace b2 := Bool.eq_false_iff.2 b2
          obtain ⟨s2, s3, h⟩ := h
          by_cases b3 : (!ByteArray.toList (Prod.fst (List.getD x0 (Int.toNat v7) (ByteArray.empty, ByteArray.empty, ByteArray.empty, ()))) == ByteArray.toList (Prod.fst x1)) = true
          · rw [if_pos b3] at h
            obtain ⟨s4, s5, h⟩ := h
            obtain ⟨s6, h⟩ := h
            obtain ⟨s7, h⟩ := h
            exact AtV.runN tabOk ext22Ok mixed (p22_4 v6 v7 h1 x0 x1) ⟨b0, b1, s0, s1, trivial, b2, s2, s3, b3, rfl, s4, s5, s6, s7, trivial⟩ (ih4 _ _ _ _ _ _ h w0 O q)
          · rw [if_neg b3] at h
            replace b3 := Bool.eq_false_iff.2 b3
            obtain ⟨s4, s5, h⟩ := h
            by_cases b4 : (!ByteArray.toList (Prod.fst (Prod.snd (List.getD x0 (Int.toNat v7) (ByteArray.empty, ByteArray.empty, ByteArray.empty, ())))) == ByteArray.toList (Prod.fst (Prod.snd x1))) = true
            · rw [if_pos b4] at h
              obtain ⟨s6, s7, h⟩ := h
              obtain ⟨s8, h⟩ := h
              obtain ⟨s9, h⟩ := h
              exact AtV.runN tabOk ext22Ok mixed (p22_5 v6 v7 h1 x0 x1) ⟨b0, b1, s0, s1, trivial, b2, s2, s3, b3, s4, s5, b4, s6, s7, s8, s9, trivial⟩ (ih4 _ _ _ _ _ _ h w0 O q)
            · rw [if_neg b4] at h
              replace b4 := Bool.eq_false_iff.2 b4
              obtain ⟨s6, h⟩ := h
              exact AtV.runN tabOk ext22Ok mixed (p22_6 v6 v7 h1 x0 x1) ⟨b0, b1, s0, s1, trivial, b2, s2, s3, b3, s4, s5, b4, s6, trivial⟩ (ih4 _ _ _ _ _ _ h w0 O q)
      · rw [if_neg b1] at h
        replace b1 := Bool.eq_false_iff.2 b1
        obtain ⟨s0, s1, h⟩ := h
        by_cases b2 : (!ByteArray.toList (Prod.fst (List.getD x0 (Int.toNat v7) (ByteArray.empty, ByteArray.empty, ByteArray.empty, ()))) == ByteArray.toList (Prod.fst x1)) = true
        · rw [if_pos b2] at h
          obtain ⟨s2, s3, h⟩ := h
          obtain ⟨s4, h⟩ := h
          obtain ⟨s5, h⟩ := h
          exact AtV.runN tabOk ext22Ok mixed (p22_7 v6 v7 h1 x0 x1) ⟨b0, b1, rfl, s0, s1, b2, rfl, s2, s3, s4, s5, trivial⟩ (ih4 _ _ _ _ _ _ h w0 O q)
        · rw [if_neg b2] at h
          replace b2 := Bool.eq_false_iff.2 b2
          obtain ⟨s2, s3, h⟩ := h
          by_cases b3 : (!ByteArray.toList (Prod.fst (Prod.snd (List.getD x0 (Int.toNat v7) (ByteArray.empty, ByteArray.empty, ByteArray.empty, ())))) == ByteArray.toList (Prod.fst (Prod.snd x1))) = true
          · rw [if_pos b3] at h
            obtain ⟨s4, s5, h⟩ := h
            obtain ⟨s6, h⟩ := h
            obtain ⟨s7, h⟩ := h
            exact AtV.runN tabOk ext22Ok mixed (p22_8 v6 v7 h1 x0 x1) ⟨b0, b1, rfl, s0, s1, b2, s2, s3, b3, s4, s5, s6, s7, trivial⟩ (ih4 _ _ _ _ _ _ h w0 O q)
          · rw [if_neg b3] at h
            replace b3 := Bool.eq_false_iff.2 b3
            obtain ⟨s4, h⟩ := h
            exact AtV.runN tabOk ext22Ok mixed (p22_9 v6 v7 h1 x0 x1) ⟨b0, b1, rfl, s0, s1, b2, s2, s3, b3, s4, trivial⟩ (ih4 _ _ _ _ _ _ h w0 O q)
    · rw [if_neg b0] at h
      replace b0 := Bool.eq_false_iff.2 b0
      by_cases b1 : (!v6) = true
      · rw [if_pos b1] at h
        obtain ⟨s0, h⟩ := h
        subst h
        exact AtV.fin Try.func22 tabOk ext22Ok mixed (p22_10 v6 v7 h1 x0 x1) ⟨b0, b1, s0, trivial⟩
      · rw [if_neg b1] at h
        replace b1 := Bool.eq_false_iff.2 b1
        subst h
        exact AtV.fin Try.func22 tabOk ext22Ok mixed (p22_11 v6 v7 h1 x0 x1) ⟨b0, b1, trivial⟩



def st22 (t : (ByteArray × ByteArray × ByteArray × Unit)) (s : List (ByteArray × ByteArray × ByteArray × Unit) × Bool) (x : (ByteArray × ByteArray × ByteArray × Unit)) : List (ByteArray × ByteArray × ByteArray × Unit) × Bool :=
  (if (ByteArray.toList x.1 == ByteArray.toList t.1 && ByteArray.toList x.2.1 == ByteArray.toList t.2.1) = true then (if (!s.2 && !g36_0 x t) = true then s.1 ++ [t] else s.1) else (if (!s.2 && !g36_0 x t) = true then s.1 ++ [t] else s.1) ++ [x], s.2 || !g36_0 x t)

def fin22 (t : (ByteArray × ByteArray × ByteArray × Unit)) (s : List (ByteArray × ByteArray × ByteArray × Unit) × Bool) : List (ByteArray × ByteArray × ByteArray × Unit) := if s.2 = true then s.1 else s.1 ++ [t]
def g22_0 (x0 : List (ByteArray × ByteArray × ByteArray × Unit)) (x1 : (ByteArray × ByteArray × ByteArray × Unit)) : List (ByteArray × ByteArray × ByteArray × Unit) := fin22 x1 (x0.foldl (st22 x1) ([], false))
def P22 (x0 : List (ByteArray × ByteArray × ByteArray × Unit)) (x1 : (ByteArray × ByteArray × ByteArray × Unit)) : Prop := x0.length ≤ 1048576

theorem stl22 (t : (ByteArray × ByteArray × ByteArray × Unit)) (s : List (ByteArray × ByteArray × ByteArray × Unit) × Bool) (x : (ByteArray × ByteArray × ByteArray × Unit)) (i : Nat) (h : s.1.length ≤ 2 * i) : (st22 t s x).1.length ≤ 2 * (i + 1) := by
  unfold st22
  cases (ByteArray.toList x.1 == ByteArray.toList t.1 && ByteArray.toList x.2.1 == ByteArray.toList t.2.1) <;> cases (!s.2 && !g36_0 x t) <;> simp <;> omega

set_option maxHeartbeats 1000000 in
theorem top22 (x0 : List (ByteArray × ByteArray × ByteArray × Unit)) (x1 : (ByteArray × ByteArray × ByteArray × Unit)) (hp : P22 x0 x1) : R22 (x0.length + 1 + 1) x0 x1 [⟨.sl (.cons .str (.cons .str (.cons .str .unit))), g22_0 x0 x1⟩] := by
  have hl : x0.length ≤ 1048576 := hp
  have hm : x0.length ≤ maxLen := by unfold maxLen; omega
  rw [R22]
  have key : ∀ d : List Dyn, d = [(⟨.sl (.cons .str (.cons .str (.cons .str .unit))), fin22 x1 (x0.foldl (st22 x1) ([], false))⟩ : Dyn)] → R22_4 (x0.length + 1) false 0 [] x0 x1 d → R22_4 (x0.length + 1) false 0 [] x0 x1 [⟨.sl (.cons .str (.cons .str (.cons .str .unit))), g22_0 x0 x1⟩] := fun d hd h => by rw [hd] at h; exact h
  refine key _ rfl ?_
  clear key
  refine loop_fold (β := List (ByteArray × ByteArray × ByteArray × Unit) × Bool) (δ := List Dyn) (b := ([], false)) x0 (ByteArray.empty, ByteArray.empty, ByteArray.empty, ()) (st22 x1) (fun s => [(⟨.sl (.cons .str (.cons .str (.cons .str .unit))), fin22 x1 s⟩ : Dyn)]) (fun n s => s.1.length ≤ 2 * n) (fun n i s ds => R22_4 n s.2 i s.1 x0 x1 ds) (by simp) (fun n s hs => ?_) (fun n i s hi hs => ⟨stl22 x1 s _ i hs, fun ds hr => ?_⟩)
  · show R22_4 (n + 1) s.2 (x0.length : Int) s.1 x0 x1 _
    rw [R22_4, if_neg (by simp)]
    obtain ⟨h, d⟩ := s
    simp only at hs ⊢
    unfold fin22
    cases d with
    | true => simp
    | false =>
      exact ⟨by omega, rfl⟩
  · have hup := inR_up hm hi
    obtain ⟨h, d⟩ := s
    simp only at hs
    have b0 : (0 : Int) ≤ (i : Int) := by omega
    have b1 : (i : Int) < (x0.length : Int) := by omega
    have c1 : ((h.length + 1 : Nat) : Nat) * 48 ≤ 140737488355328 := by omega
    have c2 : ((h ++ [x1]).length + 1) * 48 ≤ 140737488355328 := by
      have e : (h ++ [x1]).length = h.length + 1 := by rw [List.length_append, List.length_singleton]
      omega
    show R22_4 (n + 1) d (i : Int) h x0 x1 ds
    rw [R22_4, if_pos (by simp only [decide_eq_true_eq]; omega)]
    unfold st22 at hr
    simp only [Int.toNat_natCast] at hr ⊢
    generalize x0.getD i (ByteArray.empty, ByteArray.empty, ByteArray.empty, ()) = y at *
    cases d <;> cases hb : g36_0 y x1 <;> cases hk : (ByteArray.toList y.1 == ByteArray.toList x1.1) <;> cases hn : (ByteArray.toList y.2.1 == ByteArray.toList x1.2.1) <;>
      simp only [hb, hk, hn, Bool.not_true, Bool.not_false, Bool.and_true, Bool.and_false, Bool.true_and, Bool.false_and, Bool.or_true, Bool.or_false, Bool.true_or, Bool.false_or, if_true, if_false, Bool.false_eq_true, b0, b1, c1, c2, hup, true_and] at hr ⊢ <;> exact hr

def S22 : Am.Spec := { sig := sig22, pre := fun ⟨x0, x1, _⟩ => P22 x0 x1, res := fun ⟨x0, x1, _⟩ => [⟨.sl (.cons .str (.cons .str (.cons .str .unit))), g22_0 x0 x1⟩] }
theorem con22 : Contract Try.prog 22 S22 := contract_of Try.func22 hb22 (Nat.le_of_ble_eq_true (by kernel_rfl)) (fun ⟨x0, x1, _⟩ h hwf w0 O q =>
  (snd22 _).1 x0 x1 _ (top22 x0 x1 h) w0 O q)

theorem len22 (x0 : List (ByteArray × ByteArray × ByteArray × Unit)) (x1 : (ByteArray × ByteArray × ByteArray × Unit)) : (g22_0 x0 x1).length ≤ x0.length + 1 := by
  have key : ∀ (l : List (ByteArray × ByteArray × ByteArray × Unit)) (s : List (ByteArray × ByteArray × ByteArray × Unit) × Bool) (n : Nat), s.1.length ≤ n + (if s.2 = true then 1 else 0) → (l.foldl (st22 x1) s).1.length ≤ n + l.length + (if (l.foldl (st22 x1) s).2 = true then 1 else 0) := by
    intro l
    induction l with
    | nil => intro s n h; exact h
    | cons y r ih =>
      intro s n h
      rw [List.foldl_cons]
      have := ih (st22 x1 s y) (n + 1) (by
        obtain ⟨a, d⟩ := s
        simp only at h
        unfold st22
        cases (ByteArray.toList y.1 == ByteArray.toList x1.1 && ByteArray.toList y.2.1 == ByteArray.toList x1.2.1) <;> cases g36_0 y x1 <;> cases d <;> simp at h ⊢ <;> omega)
      rw [List.length_cons]
      omega
  have := key x0 ([], false) 0 (by simp)
  unfold g22_0 fin22
  generalize x0.foldl (st22 x1) ([], false) = s at *
  obtain ⟨a, d⟩ := s
  cases d with
  | true => simp at this ⊢; omega
  | false => simp at this ⊢; omega

end Go.Proofs.Ytakodkjcmacofaa

/- Function 6 (spec.MergeBlocks): its runs between cut points. Written by a program of this repo (gen). -/
set_option linter.unusedVariables false
set_option linter.unusedSimpArgs false
set_option maxRecDepth 100000
namespace Go.Proofs.Ytakodkjcmacofaa
open Go Go.Am Go.Proofs
def ext6 : Ext := [(21, S21), (22, S22)]
theorem call6_21 : Callable Try.prog 21 := ⟨Try.f21, Try.func21, by kernel_rfl, by kernel_rfl⟩
theorem call6_22 : Callable Try.prog 22 := ⟨Try.f22, Try.func22, by kernel_rfl, by kernel_rfl⟩
theorem ext6Ok : ExtOk Try.prog ext6 := ⟨⟨call6_21, con21⟩, ⟨call6_22, con22⟩, trivial⟩
/-! Function 6. -/
noncomputable def b6 : Code := bodyOf Try.f6
theorem hb6 : Try.f6.body = some b6 := by kernel_rfl
def sig6 : List AT := [AT.v (Ty.sl (Ty.cons Ty.str (Ty.cons Ty.str (Ty.cons Ty.str Ty.unit)))), AT.v (Ty.sl (Ty.cons Ty.str (Ty.cons Ty.str (Ty.cons Ty.str Ty.unit))))]
def tys6 : List Ty := [Ty.sl (Ty.cons Ty.str (Ty.cons Ty.str (Ty.cons Ty.str Ty.unit))), Ty.int IntKind.i64]
def E6_5 (v7 : Int) (h0 : List (ByteArray × ByteArray × ByteArray × Unit)) (x1 : List (ByteArray × ByteArray × ByteArray × Unit)) : Env := [(1, PV.a (Atom.sl (Ty.cons Ty.str (Ty.cons Ty.str (Ty.cons Ty.str Ty.unit))) x1)), (6, PV.a (Atom.osl 0 Option.none)), (7, PV.a (Atom.val (Value.int IntKind.i64 v7)))]
def L6_5 (v7 : Int) (h0 : List (ByteArray × ByteArray × ByteArray × Unit)) (x1 : List (ByteArray × ByteArray × ByteArray × Unit)) : Heap := [Option.some (Arr.mk (Ty.cons Ty.str (Ty.cons Ty.str (Ty.cons Ty.str Ty.unit))) h0 Bool.false)]
mutual
def R6 : Nat → List (ByteArray × ByteArray × ByteArray × Unit) → List (ByteArray × ByteArray × ByteArray × Unit) → List Dyn → Prop
  | 0, _, _, _ => False
  | n + 1, x0, x1, ds => (if (!g21_0 x0) = true then (ds = [Dyn.mk (Ty.sl (Ty.cons Ty.str (Ty.cons Ty.str (Ty.cons Ty.str Ty.unit)))) [], Dyn.mk (Ty.int IntKind.i64) 1]) else (if (!g21_0 x1) = true then (ds = [Dyn.mk (Ty.sl (Ty.cons Ty.str (Ty.cons Ty.str (Ty.cons Ty.str Ty.unit)))) [], Dyn.mk (Ty.int IntKind.i64) 1]) else (((0 + List.length x0) * 48 ≤ 140737488355328) ∧ (R6_5 n (0) ([] ++ x0) (x1) ds))))
def R6_5 : Nat → Int → List (ByteArray × ByteArray × ByteArray × Unit) → List (ByteArray × ByteArray × ByteArray × Unit) → List Dyn → Prop
  | 0, _, _, _, _ => False
  | n + 1, v7, h0, x1, ds => (if (Decidable.decide (v7 < (↑(List.length x1) : Int))) = true then ((0 ≤ v7) ∧ (v7 < (↑(List.length x1) : Int)) ∧ ((P22 h0 (List.getD x1 (Int.toNat v7) (ByteArray.empty, ByteArray.empty, ByteArray.empty, ()))) ∧ ((InR IntKind.i64 (v7 + 1)) ∧ (R6_5 n (v7 + 1) (g22_0 h0 (List.getD x1 (Int.toNat v7) (ByteArray.empty, ByteArray.empty, ByteArray.empty, ()))) (x1) ds)))) else (if (Decidable.decide ((↑(List.length h0) : Int) > 32)) = true then (ds = [Dyn.mk (Ty.sl (Ty.cons Ty.str (Ty.cons Ty.str (Ty.cons Ty.str Ty.unit)))) [], Dyn.mk (Ty.int IntKind.i64) 5]) else (ds = [Dyn.mk (Ty.sl (Ty.cons Ty.str (Ty.cons Ty.str (Ty.cons Ty.str Ty.unit)))) h0, Dyn.mk (Ty.int IntKind.i64) 0])))
end
theorem p6_0 (x0 : List (ByteArray × ByteArray × ByteArray × Unit)) (x1 : List (ByteArray × ByteArray × ByteArray × Unit)) : runF tab ext6 false 35 [] 2000 [] tys6 Try.f6.results [true, true] [.code b6] (entE 0 0 sig6 (x0, x1, ())) (entL sig6 (x0, x1, ())) = some ([Dyn.mk (Ty.sl (Ty.cons Ty.str (Ty.cons Ty.str (Ty.cons Ty.str Ty.unit)))) [], Dyn.mk (Ty.int IntKind.i64) 1], [], [True, (!g21_0 x0) = Bool.true, Bool.true = Bool.true]) := by kernel_rfl
theorem p6_1 (x0 : List (ByteArray × ByteArray × ByteArray × Unit)) (x1 : List (ByteArray × ByteArray × ByteArray × Unit)) : runF tab ext6 false 35 [] 2000 [] tys6 Try.f6.results [false, true] [.code b6] (entE 0 0 sig6 (x0, x1, ())) (entL sig6 (x0, x1, ())) = some ([Dyn.mk (Ty.sl (Ty.cons Ty.str (Ty.cons Ty.str (Ty.cons Ty.str Ty.unit)))) [], Dyn.mk (Ty.int IntKind.i64) 1], [], [True, (!g21_0 x0) = Bool.false, True, (!g21_0 x1) = Bool.true]) := by kernel_rfl
theorem p6_2 (x0 : List (ByteArray × ByteArray × ByteArray × Unit)) (x1 : List (ByteArray × ByteArray × ByteArray × Unit)) : Am.runN tab ext6 false 35 [] 2000 [] [] [1, 6, 7] [0] [false, false] [.code b6] (entE 0 0 sig6 (x0, x1, ())) (entL sig6 (x0, x1, ())) = some (cutAt b6 5, E6_5 (0) ([] ++ x0) (x1), L6_5 (0) ([] ++ x0) (x1), [True, (!g21_0 x0) = Bool.false, True, (!g21_0 x1) = Bool.false, (0 + List.length x0) * 48 ≤ 140737488355328]) := by kernel_rfl
theorem p6_3 (v7 : Int) (h0 : List (ByteArray × ByteArray × ByteArray × Unit)) (x1 : List (ByteArray × ByteArray × ByteArray × Unit)) : Am.runN tab ext6 false 35 [] 2000 [] [] [1, 6, 7] [1] [true] (cutAt b6 5) (E6_5 v7 h0 x1) (L6_5 v7 h0 x1) = some (cutAt b6 5, E6_5 (v7 + 1) (g22_0 h0 (List.getD x1 (Int.toNat v7) (ByteArray.empty, ByteArray.empty, ByteArray.empty, ()))) (x1), L6_5 (v7 + 1) (g22_0 h0 (List.getD x1 (Int.toNat v7) (ByteArray.empty, ByteArray.empty, ByteArray.empty, ()))) (x1), [Decidable.decide (v7 < (↑(List.length x1) : Int)) = Bool.true, 0 ≤ v7, v7 < (↑(List.length x1) : Int), P22 h0 (List.getD x1 (Int.toNat v7) (ByteArray.empty, ByteArray.empty, ByteArray.empty, ())), InR IntKind.i64 (v7 + 1)]) := by kernel_rfl
theorem p6_4 (v7 : Int) (h0 : List (ByteArray × ByteArray × ByteArray × Unit)) (x1 : List (ByteArray × ByteArray × ByteArray × Unit)) : runF tab ext6 false 35 [] 2000 [] tys6 Try.f6.results [false, true] (cutAt b6 5) (E6_5 v7 h0 x1) (L6_5 v7 h0 x1) = some ([Dyn.mk (Ty.sl (Ty.cons Ty.str (Ty.cons Ty.str (Ty.cons Ty.str Ty.unit)))) [], Dyn.mk (Ty.int IntKind.i64) 5], [], [Decidable.decide (v7 < (↑(List.length x1) : Int)) = Bool.false, Decidable.decide ((↑(List.length h0) : Int) > 32) = Bool.true]) := by kernel_rfl
theorem p6_5 (v7 : Int) (h0 : List (ByteArray × ByteArray × ByteArray × Unit)) (x1 : List (ByteArray × ByteArray × ByteArray × Unit)) : runF tab ext6 false 35 [] 2000 [] tys6 Try.f6.results [false, false] (cutAt b6 5) (E6_5 v7 h0 x1) (L6_5 v7 h0 x1) = some ([Dyn.mk (Ty.sl (Ty.cons Ty.str (Ty.cons Ty.str (Ty.cons Ty.str Ty.unit)))) h0, Dyn.mk (Ty.int IntKind.i64) 0], [], [Decidable.decide (v7 < (↑(List.length x1) : Int)) = Bool.false, Decidable.decide ((↑(List.length h0) : Int) > 32) = Bool.false]) := by kernel_rfl
theorem snd6 : ∀ n, (∀ (x0 : List (ByteArray × ByteArray × ByteArray × Unit)) (x1 : List (ByteArray × ByteArray × ByteArray × Unit)) ds, R6 n x0 x1 ds → ∀ w0 O q, AtV Try.prog 6 (PostR ds [] [] q w0 O) 35 w0 O q [] [.code b6] (entE 0 0 sig6 (x0, x1, ())) (entL sig6 (x0, x1, ()))) ∧ (∀ (v7 : Int) (h0 : List (ByteArray × ByteArray × ByteArray × Unit)) (x1 : List (ByteArray × ByteArray × ByteArray × Unit)) ds, R6_5 n v7 h0 x1 ds → ∀ w0 O q, AtV Try.prog 6 (PostR ds [] [] q w0 O) 35 w0 O q [] (cutAt b6 5) (E6_5 v7 h0 x1) (L6_5 v7 h0 x1)) := by
  intro n
  induction n with
  | zero => exact ⟨fun _ _ _ h => by simp only [R6] at h, fun _ _ _ _ h => by simp only [R6_5] at h⟩
  | succ n ih =>
  obtain ⟨ih, ih5⟩ := ih
  refine ⟨?_, ?_⟩
  · intro x0 x1 ds h w0 O q
    rw [R6] at h
    by_cases b0 : (!g21_0 x0) = true
    · rw [if_pos b0] at h
      subst h
      exact AtV.fin Try.func6 tabOk ext6Ok mixed (p6_0 x0 x1) ⟨trivial, b0, rfl, trivial⟩
    · rw [if_neg b0] at h
      replace b0 := Bool.eq_false_iff.2 b0
      by_cases b1 : (!g21_0 x1) = true
      · rw [if_pos b1] at h
        subst h
        exact AtV.fin Try.func6 tabOk ext6Ok mixed (p6_1 x0 x1) ⟨trivial, b0, trivial, b1, trivial⟩
      · rw [if_neg b1] at h
        replace b1 := Bool.eq_false_iff.2 b1
        obtain ⟨s0, h⟩ := h
        exact AtV.runN tabOk ext6Ok mixed (p6_2 x0 x1) ⟨trivial, b0, trivial, b1, s0, trivial⟩ (ih5 _ _ _ _ h w0 O q)

  · intro v7 h0 x1 ds h w0 O q
    rw [R6_5] at h
    by_cases b0 : (Decidable.decide (v7 < (↑(List.length x1) : Int))) = true
    · rw [if_pos b0] at h
      obtain ⟨s0, s1, h⟩ := h
      obtain ⟨s2, h⟩ := h
      obtain ⟨s3, h⟩ := h
      exact AtV.runN tabOk ext6Ok mixed (p6_3 v7 h0 x1) ⟨b0, s0, s1, s2, s3, trivial⟩ (ih5 _ _ _ _ h w0 O q)
    · rw [if_neg b0] at h
      replace b0 := Bool.eq_false_iff.2 b0
      by_cases b1 : (Decidable.decide ((↑(List.length h0) : Int) > 32)) = true
      · rw [if_pos b1] at h
        subst h
        exact AtV.fin Try.func6 tabOk ext6Ok mixed (p6_4 v7 h0 x1) ⟨b0, b1, trivial⟩
      · rw [if_neg b1] at h
        replace b1 := Bool.eq_false_iff.2 b1
        subst h
        exact AtV.fin Try.func6 tabOk ext6Ok mixed (p6_5 v7 h0 x1) ⟨b0, b1, trivial⟩



def all6 (x0 x1 : List (ByteArray × ByteArray × ByteArray × Unit)) : List (ByteArray × ByteArray × ByteArray × Unit) := x1.foldl (fun h t => g22_0 h t) x0
def g6_0 (x0 x1 : List (ByteArray × ByteArray × ByteArray × Unit)) : List (ByteArray × ByteArray × ByteArray × Unit) := if (g21_0 x0 && g21_0 x1) = true then (if (all6 x0 x1).length > 32 then [] else all6 x0 x1) else []
def g6_1 (x0 x1 : List (ByteArray × ByteArray × ByteArray × Unit)) : Int := if (g21_0 x0 && g21_0 x1) = true then (if (all6 x0 x1).length > 32 then 5 else 0) else 1
def P6 (x0 x1 : List (ByteArray × ByteArray × ByteArray × Unit)) : Prop := x0.length + x1.length ≤ 1048576

theorem top6 (x0 x1 : List (ByteArray × ByteArray × ByteArray × Unit)) (hp : P6 x0 x1) : ∃ n, R6 n x0 x1 [⟨.sl (.cons .str (.cons .str (.cons .str .unit))), g6_0 x0 x1⟩, ⟨.int .i64, g6_1 x0 x1⟩] := by
  have hl : x0.length + x1.length ≤ 1048576 := hp
  have hm : x1.length ≤ maxLen := by unfold maxLen; omega
  unfold g6_0 g6_1
  refine ⟨x1.length + 1 + 1, ?_⟩
  rw [R6]
  cases h0 : g21_0 x0 with
  | false => simp
  | true =>
    cases h1 : g21_0 x1 with
    | false => simp
    | true =>
      simp only [Bool.not_true, Bool.false_eq_true, if_false, Bool.and_true, if_true]
      refine ⟨by omega, ?_⟩
      refine loop_fold (β := List (ByteArray × ByteArray × ByteArray × Unit)) (δ := List Dyn) (b := x0) x1 (ByteArray.empty, ByteArray.empty, ByteArray.empty, ()) (fun h t => g22_0 h t) (fun h => [(⟨.sl (.cons .str (.cons .str (.cons .str .unit))), if h.length > 32 then [] else h⟩ : Dyn), ⟨.int .i64, (if h.length > 32 then (5 : Int) else 0)⟩]) (fun n h => h.length ≤ x0.length + n) (fun n i h ds => R6_5 n i h x1 ds) (by omega) (fun n h hs => ?_) (fun n i h hi hs => ⟨?_, fun ds hr => ?_⟩)
      · show R6_5 (n + 1) (x1.length : Int) h x1 _
        rw [R6_5, if_neg (by simp)]
        by_cases hc : h.length > 32
        · rw [if_pos (by simp only [decide_eq_true_eq]; omega), if_pos hc, if_pos hc]
        · rw [if_neg (by simp only [decide_eq_true_eq]; omega), if_neg hc, if_neg hc]
      · have := len22 h (x1.getD i (ByteArray.empty, ByteArray.empty, ByteArray.empty, ()))
        show (g22_0 h (x1.getD i (ByteArray.empty, ByteArray.empty, ByteArray.empty, ()))).length ≤ x0.length + (i + 1)
        omega
      · have hup := inR_up hm hi
        have q : P22 h (x1.getD i (ByteArray.empty, ByteArray.empty, ByteArray.empty, ())) := (show h.length ≤ 1048576 from by omega)
        show R6_5 (n + 1) (i : Int) h x1 ds
        rw [R6_5, if_pos (by simp only [decide_eq_true_eq]; omega)]
        simp only [Int.toNat_natCast]
        exact ⟨by omega, by omega, q, hup, hr⟩

def S6 : Am.Spec := { sig := sig6, pre := fun ⟨x0, x1, _⟩ => P6 x0 x1, res := fun ⟨x0, x1, _⟩ => [⟨.sl (.cons .str (.cons .str (.cons .str .unit))), g6_0 x0 x1⟩, ⟨.int .i64, g6_1 x0 x1⟩] }
theorem con6 : Contract Try.prog 6 S6 := contract_of Try.func6 hb6 (Nat.le_of_ble_eq_true (by kernel_rfl)) (fun ⟨x0, x1, _⟩ h hwf w0 O q =>
  let ⟨n, hn⟩ := top6 x0 x1 h
  (snd6 n).1 x0 x1 _ hn w0 O q)

end Go.Proofs.Ytakodkjcmacofaa

/- Function 42 (impl.IsName): its runs between cut points. Written by a program of this repo (gen). -/
set_option linter.unusedVariables false
set_option linter.unusedSimpArgs false
set_option maxRecDepth 100000
namespace Go.Proofs.Ytakodkjcmacofaa
open Go Go.Am Go.Proofs
def ext42 : Ext := []
theorem ext42Ok : ExtOk Try.prog ext42 := trivial
/-! Function 42. -/
noncomputable def b42 : Code := bodyOf Try.f42
theorem hb42 : Try.f42.body = some b42 := by kernel_rfl
def sig42 : List AT := [AT.v (Ty.str)]
def tys42 : List Ty := [Ty.bool]
def E42_4 (v18 : Int) (x0 : ByteArray) : Env := [(16, PV.a (Atom.osl 0 Option.none)), (17, PV.a (Atom.val (Value.int IntKind.i64 (↑(List.length (bytesOf x0)) : Int)))), (18, PV.a (Atom.val (Value.int IntKind.i64 v18)))]
def L42_4 (v18 : Int) (x0 : ByteArray) : Heap := [Option.some (Arr.mk (Ty.int IntKind.u8) (bytesOf x0) Bool.false)]
mutual
def R42 : Nat → ByteArray → List Dyn → Prop
  | 0, _, _ => False
  | n + 1, x0, ds => (if (Decidable.decide ((↑(ByteArray.size x0) : Int) < 1)) = true then (ds = [Dyn.mk Ty.bool Bool.false]) else (if (Decidable.decide ((↑(ByteArray.size x0) : Int) > 10)) = true then (ds = [Dyn.mk Ty.bool Bool.false]) else (R42_4 n (0) (x0) ds)))
def R42_4 : Nat → Int → ByteArray → List Dyn → Prop
  | 0, _, _, _ => False
  | n + 1, v18, x0, ds => (if (Decidable.decide (v18 < (↑(List.length (bytesOf x0)) : Int))) = true then ((0 ≤ v18) ∧ (v18 < (↑(List.length (bytesOf x0)) : Int)) ∧ (if (Decidable.decide (List.getD (bytesOf x0) (Int.toNat v18) 0 ≥ 97)) = true then (if (Decidable.decide (List.getD (bytesOf x0) (Int.toNat v18) 0 ≥ 48)) = true then (if (!Decidable.decide (List.getD (bytesOf x0) (Int.toNat v18) 0 ≤ 122)) = true then (if (v18 == 0) = true then (ds = [Dyn.mk Ty.bool Bool.false]) else (if (!Decidable.decide (List.getD (bytesOf x0) (Int.toNat v18) 0 ≤ 57)) = true then (ds = [Dyn.mk Ty.bool Bool.false]) else ((InR IntKind.i64 (v18 + 1)) ∧ (R42_4 n (v18 + 1) (x0) ds)))) else ((InR IntKind.i64 (v18 + 1)) ∧ (R42_4 n (v18 + 1) (x0) ds))) else (if (!Decidable.decide (List.getD (bytesOf x0) (Int.toNat v18) 0 ≤ 122)) = true then (if (v18 == 0) = true then (ds = [Dyn.mk Ty.bool Bool.false]) else (ds = [Dyn.mk Ty.bool Bool.false])) else ((InR IntKind.i64 (v18 + 1)) ∧ (R42_4 n (v18 + 1) (x0) ds)))) else (if (Decidable.decide (List.getD (bytesOf x0) (Int.toNat v18) 0 ≥ 48)) = true then (if (v18 == 0) = true then (ds = [Dyn.mk Ty.bool Bool.false]) else (if (!Decidable.decide (List.getD (bytesOf x0) (Int.toNat v18) 0 ≤ 57)) = true then (ds = [Dyn.mk Ty.bool Bool.false]) else ((InR IntKind.i64 (v18 + 1)) ∧ (R42_4 n (v18 + 1) (x0) ds)))) else (if (v18 == 0) = true then (ds = [Dyn.mk Ty.bool Bool.false]) else (ds = [Dyn.mk Ty.bool Bool.false]))))) else (ds = [Dyn.mk Ty.bool Bool.true]))
end
theorem p42_0 (x0 : ByteArray) : runF tab ext42 false 46 [] 2000 [] tys42 Try.f42.results [true, true] [.code b42] (entE 0 0 sig42 (x0, ())) (entL sig42 (x0, ())) = some ([Dyn.mk Ty.bool Bool.false], [], [Decidable.decide ((↑(ByteArray.size x0) : Int) < 1) = Bool.true, Bool.true = Bool.true]) := by kernel_rfl
theorem p42_1 (x0 : ByteArray) : runF tab ext42 false 46 [] 2000 [] tys42 Try.f42.results [false, true] [.code b42] (entE 0 0 sig42 (x0, ())) (entL sig42 (x0, ())) = some ([Dyn.mk Ty.bool Bool.false], [], [Decidable.decide ((↑(ByteArray.size x0) : Int) < 1) = Bool.false, Decidable.decide ((↑(ByteArray.size x0) : Int) > 10) = Bool.true]) := by kernel_rfl
theorem p42_2 (x0 : ByteArray) : Am.runN tab ext42 false 46 [] 2000 [] [] [16, 17, 18] [0] [false, false] [.code b42] (entE 0 0 sig42 (x0, ())) (entL sig42 (x0, ())) = some (cutAt b42 4, E42_4 (0) (x0), L42_4 (0) (x0), [Decidable.decide ((↑(ByteArray.size x0) : Int) < 1) = Bool.false, Decidable.decide ((↑(ByteArray.size x0) : Int) > 10) = Bool.false]) := by kernel_rfl
theorem p42_3 (v18 : Int) (x0 : ByteArray) : runF tab ext42 false 46 [] 2000 [] tys42 Try.f42.results [true, true, true, true, true, true] (cutAt b42 4) (E42_4 v18 x0) (L42_4 v18 x0) = some ([Dyn.mk Ty.bool Bool.false], [], [Decidable.decide (v18 < (↑(List.length (bytesOf x0)) : Int)) = Bool.true, 0 ≤ v18, v18 < (↑(List.length (bytesOf x0)) : Int), Decidable.decide (List.getD (bytesOf x0) (Int.toNat v18) 0 ≥ 97) = Bool.true, Decidable.decide (List.getD (bytesOf x0) (Int.toNat v18) 0 ≥ 48) = Bool.true, (!Decidable.decide (List.getD (bytesOf x0) (Int.toNat v18) 0 ≤ 122)) = Bool.true, (v18 == 0) = Bool.true, Bool.true = Bool.true]) := by kernel_rfl
theorem p42_4 (v18 : Int) (x0 : ByteArray) : runF tab ext42 false 46 [] 2000 [] tys42 Try.f42.results [true, true, true, true, false, true] (cutAt b42 4) (E42_4 v18 x0) (L42_4 v18 x0) = some ([Dyn.mk Ty.bool Bool.false], [], [Decidable.decide (v18 < (↑(List.length (bytesOf x0)) : Int)) = Bool.true, 0 ≤ v18, v18 < (↑(List.length (bytesOf x0)) : Int), Decidable.decide (List.getD (bytesOf x0) (Int.toNat v18) 0 ≥ 97) = Bool.true, Decidable.decide (List.getD (bytesOf x0) (Int.toNat v18) 0 ≥ 48) = Bool.true, (!Decidable.decide (List.getD (bytesOf x0) (Int.toNat v18) 0 ≤ 122)) = Bool.true, (v18 == 0) = Bool.false, (!Decidable.decide (List.getD (bytesOf x0) (Int.toNat v18) 0 ≤ 57)) = Bool.true]) := by kernel_rfl
theorem p42_5 (v18 : Int) (x0 : ByteArray) : Am.runN tab ext42 false 46 [] 2000 [] [] [16, 17, 18] [0] [true, true, true, true, false, false] (cutAt b42 4) (E42_4 v18 x0) (L42_4 v18 x0) = some (cutAt b42 4, E42_4 (v18 + 1) (x0), L42_4 (v18 + 1) (x0), [Decidable.decide (v18 < (↑(List.length (bytesOf x0)) : Int)) = Bool.true, 0 ≤ v18, v18 < (↑(List.length (bytesOf x0)) : Int), Decidable.decide (List.getD (bytesOf x0) (Int.toNat v18) 0 ≥ 97) = Bool.true, Decidable.decide (List.getD (bytesOf x0) (Int.toNat v18) 0 ≥ 48) = Bool.true, (!Decidable.decide (List.getD (bytesOf x0) (Int.toNat v18) 0 ≤ 122)) = Bool.true, (v18 == 0) = Bool.false, (!Decidable.decide (List.getD (bytesOf x0) (Int.toNat v18) 0 ≤ 57)) = Bool.false, InR IntKind.i64 (v18 + 1)]) := by kernel_rfl
theorem p42_6 (v18 : Int) (x0 : ByteArray) : Am.runN tab ext42 false 46 [] 2000 [] [] [16, 17, 18] [0] [true, true, true, false, false] (cutAt b42 4) (E42_4 v18 x0) (L42_4 v18 x0) = some (cutAt b42 4, E42_4 (v18 + 1) (x0), L42_4 (v18 + 1) (x0), [Decidable.decide (v18 < (↑(List.length (bytesOf x0)) : Int)) = Bool.true, 0 ≤ v18, v18 < (↑(List.length (bytesOf x0)) : Int), Decidable.decide (List.getD (bytesOf x0) (Int.toNat v18) 0 ≥ 97) = Bool.true, Decidable.decide (List.getD (bytesOf x0) (Int.toNat v18) 0 ≥ 48) = Bool.true, (!Decidable.decide (List.getD (bytesOf x0) (Int.toNat v18) 0 ≤ 122)) = Bool.false, Bool.false = Bool.false, InR IntKind.i64 (v18 + 1)]) := by kernel_rfl
theorem p42_7 (v18 : Int) (x0 : ByteArray) : runF tab ext42 false 46 [] 2000 [] tys42 Try.f42.results [true, true, false, true, true, true] (cutAt b42 4) (E42_4 v18 x0) (L42_4 v18 x0) = some ([Dyn.mk Ty.bool Bool.false], [], [Decidable.decide (v18 < (↑(List.length (bytesOf x0)) : Int)) = Bool.true, 0 ≤ v18, v18 < (↑(List.length (bytesOf x0)) : Int), Decidable.decide (List.getD (bytesOf x0) (Int.toNat v18) 0 ≥ 97) = Bool.true, Decidable.decide (List.getD (bytesOf x0) (Int.toNat v18) 0 ≥ 48) = Bool.false, (!Decidable.decide (List.getD (bytesOf x0) (Int.toNat v18) 0 ≤ 122)) = Bool.true, (v18 == 0) = Bool.true, Bool.true = Bool.true]) := by kernel_rfl
theorem p42_8 (v18 : Int) (x0 : ByteArray) : runF tab ext42 false 46 [] 2000 [] tys42 Try.f42.results [true, true, false, true, false, true] (cutAt b42 4) (E42_4 v18 x0) (L42_4 v18 x0) = some ([Dyn.mk Ty.bool Bool.false], [], [Decidable.decide (v18 < (↑(List.length (bytesOf x0)) : Int)) = Bool.true, 0 ≤ v18, v18 < (↑(List.length (bytesOf x0)) : Int), Decidable.decide (List.getD (bytesOf x0) (Int.toNat v18) 0 ≥ 97) = Bool.true, Decidable.decide (List.getD (bytesOf x0) (Int.toNat v18) 0 ≥ 48) = Bool.false, (!Decidable.decide (List.getD (bytesOf x0) (Int.toNat v18) 0 ≤ 122)) = Bool.true, (v18 == 0) = Bool.false, Bool.true = Bool.true]) := by kernel_rfl
theorem p42_9 (v18 : Int) (x0 : ByteArray) : Am.runN tab ext42 false 46 [] 2000 [] [] [16, 17, 18] [0] [true, true, false, false, false] (cutAt b42 4) (E42_4 v18 x0) (L42_4 v18 x0) = some (cutAt b42 4, E42_4 (v18 + 1) (x0), L42_4 (v18 + 1) (x0), [Decidable.decide (v18 < (↑(List.length (bytesOf x0)) : Int)) = Bool.true, 0 ≤ v18, v18 < (↑(List.length (bytesOf x0)) : Int), Decidable.decide (List.getD (bytesOf x0) (Int.toNat v18) 0 ≥ 97) = Bool.true, Decidable.decide (List.getD (bytesOf x0) (Int.toNat v18) 0 ≥ 48) = Bool.false, (!Decidable.decide (List.getD (bytesOf x0) (Int.toNat v18) 0 ≤ 122)) = Bool.false, Bool.false = Bool.false, InR IntKind.i64 (v18 + 1)]) := by kernel_rfl
theorem p42_10 (v18 : Int) (x0 : ByteArray) : runF tab ext42 false 46 [] 2000 [] tys42 Try.f42.results [true, false, true, true, true, true] (cutAt b42 4) (E42_4 v18 x0) (L42_4 v18 x0) = some ([Dyn.mk Ty.bool Bool.false], [], [Decidable.decide (v18 < (↑(List.length (bytesOf x0)) : Int)) = Bool.true, 0 ≤ v18, v18 < (↑(List.length (bytesOf x0)) : Int), Decidable.decide (List.getD (bytesOf x0) (Int.toNat v18) 0 ≥ 97) = Bool.false, Decidable.decide (List.getD (bytesOf x0) (Int.toNat v18) 0 ≥ 48) = Bool.true, Bool.true = Bool.true, (v18 == 0) = Bool.true, Bool.true = Bool.true]) := by kernel_rfl
theorem p42_11 (v18 : Int) (x0 : ByteArray) : runF tab ext42 false 46 [] 2000 [] tys42 Try.f42.results [true, false, true, true, false, true] (cutAt b42 4) (E42_4 v18 x0) (L42_4 v18 x0) = some ([Dyn.mk Ty.bool Bool.false], [], [Decidable.decide (v18 < (↑(List.length (bytesOf x0)) : Int)) = Bool.true, 0 ≤ v18, v18 < (↑(List.length (bytesOf x0)) : Int), Decidable.decide (List.getD (bytesOf x0) (Int.toNat v18) 0 ≥ 97) = Bool.false, Decidable.decide (List.getD (bytesOf x0) (Int.toNat v18) 0 ≥ 48) = Bool.true, Bool.true = Bool.true, (v18 == 0) = Bool.false, (!Decidable.decide (List.getD (bytesOf x0) (Int.toNat v18) 0 ≤ 57)) = Bool.true]) := by kernel_rfl
theorem p42_12 (v18 : Int) (x0 : ByteArray) : Am.runN tab ext42 false 46 [] 2000 [] [] [16, 17, 18] [0] [true, false, true, true, false, false] (cutAt b42 4) (E42_4 v18 x0) (L42_4 v18 x0) = some (cutAt b42 4, E42_4 (v18 + 1) (x0), L42_4 (v18 + 1) (x0), [Decidable.decide (v18 < (↑(List.length (bytesOf x0)) : Int)) = Bool.true, 0 ≤ v18, v18 < (↑(List.length (bytesOf x0)) : Int), Decidable.decide (List.getD (bytesOf x0) (Int.toNat v18) 0 ≥ 97) = Bool.false, Decidable.decide (List.getD (bytesOf x0) (Int.toNat v18) 0 ≥ 48) = Bool.true, Bool.true = Bool.true, (v18 == 0) = Bool.false, (!Decidable.decide (List.getD (bytesOf x0) (Int.toNat v18) 0 ≤ 57)) = Bool.false, InR IntKind.i64 (v18 + 1)]) := by kernel_rfl
theorem p42_13 (v18 : Int) (x0 : ByteArray) : runF tab ext42 false 46 [] 2000 [] tys42 Try.f42.results [true, false, false, true, true, true] (cutAt b42 4) (E42_4 v18 x0) (L42_4 v18 x0) = some ([Dyn.mk Ty.bool Bool.false], [], [Decidable.decide (v18 < (↑(List.length (bytesOf x0)) : Int)) = Bool.true, 0 ≤ v18, v18 < (↑(List.length (bytesOf x0)) : Int), Decidable.decide (List.getD (bytesOf x0) (Int.toNat v18) 0 ≥ 97) = Bool.false, Decidable.decide (List.getD (bytesOf x0) (Int.toNat v18) 0 ≥ 48) = Bool.false, Bool.true = Bool.true, (v18 == 0) = Bool.true, Bool.true = Bool.true]) := by kernel_rfl
theorem p42_14 (v18 : Int) (x0 : ByteArray) : runF tab ext42 false 46 [] 2000 [] tys42 Try.f42.results [true, false, false, true, false, true] (cutAt b42 4) (E42_4 v18 x0) (L42_4 v18 x0) = some ([Dyn.mk Ty.bool Bool.false], [], [Decidable.decide (v18 < (↑(List.length (bytesOf x0)) : Int)) = Bool.true, 0 ≤ v18, v18 < (↑(List.length (bytesOf x0)) : Int), Decidable.decide (List.getD (bytesOf x0) (Int.toNat v18) 0 ≥ 97) = Bool.false, Decidable.decide (List.getD (bytesOf x0) (Int.toNat v18) 0 ≥ 48) = Bool.false, Bool.true = Bool.true, (v18 == 0) = Bool.false, Bool.true = Bool.true]) := by kernel_rfl
theorem p42_15 (v18 : Int) (x0 : ByteArray) : runF tab ext42 false 46 [] 2000 [] tys42 Try.f42.results [false] (cutAt b42 4) (E42_4 v18 x0) (L42_4 v18 x0) = some ([Dyn.mk Ty.bool Bool.true], [], [Decidable.decide (v18 < (↑(List.length (bytesOf x0)) : Int)) = Bool.false]) := by kernel_rfl
theorem snd42 : ∀ n, (∀ (x0 : ByteArray) ds, R42 n x0 ds → ∀ w0 O q, AtV Try.prog 42 (PostR ds [] [] q w0 O) 46 w0 O q [] [.code b42] (entE 0 0 sig42 (x0, ())) (entL sig42 (x0, ()))) ∧ (∀ (v18 : Int) (x0 : ByteArray) ds, R42_4 n v18 x0 ds → ∀ w0 O q, AtV Try.prog 42 (PostR ds [] [] q w0 O) 46 w0 O q [] (cutAt b42 4) (E42_4 v18 x0) (L42_4 v18 x0)) := by
  intro n
  induction n with
  | zero => exact ⟨fun _ _ h => by simp only [R42] at h, fun _ _ _ h => by simp only [R42_4] at h⟩
  | succ n ih =>
  obtain ⟨ih, ih4⟩ := ih
  refine ⟨?_, ?_⟩
  · intro x0 ds h w0 O q
    rw [R42] at h
    by_cases b0 : (Decidable.decide ((↑(ByteArray.size x0) : Int) < 1)) = true
    · rw [if_pos b0] at h
      subst h
      exact AtV.fin Try.func42 tabOk ext42Ok mixed (p42_0 x0) ⟨b0, rfl, trivial⟩
    · rw [if_neg b0] at h
      replace b0 := Bool.eq_false_iff.2 b0
      by_cases b1 : (Decidable.decide ((↑(ByteArray.size x0) : Int) > 10)) = true
      · rw [if_pos b1] at h
        subst h
        exact AtV.fin Try.func42 tabOk ext42Ok mixed (p42_1 x0) ⟨b0, b1, trivial⟩
      · rw [if_neg b1] at h
        replace b1 := Bool.eq_false_iff.2 b1
        exact AtV.runN tabOk ext42Ok mixed (p42_2 x0) ⟨b0, b1, trivial⟩ (ih4 _ _ _ h w0 O q)

  · intro v18 x0 ds h w0 O q
    rw [R42_4] at h
    by_cases b0 : (Decidable.decide (v18 < (↑(List.length (bytesOf x0)) : Int))) = true
    · rw [if_pos b0] at h
      obtain ⟨s0, s1, h⟩ := h
      by_cases b1 : (Decidable.decide (List.getD (bytesOf x0) (Int.toNat v18) 0 ≥ 97)) = true
      · rw [if_pos b1] at h
        by_cases b2 : (Decidable.decide (List.getD (bytesOf x0) (Int.toNat v18) 0 ≥ 48)) = true
        · rw [if_pos b2] at h
          by_cases b3 : (!Decidable.decide (List.getD (bytesOf x0) (Int.toNat v18) 0 ≤ 122)) = true
          · rw [if_pos b3] at h
            by_cases b4 : (v18 == 0) = true
            · rw [if_pos b4] at h
              subst h
              exact AtV.fin Try.func42 tabOk ext42Ok mixed (p42_3 v18 x0) ⟨b0, s0, s1, b1, b2, b3, b4, rfl, trivial⟩
            · rw [if_neg b4] at h
              replace b4 := Bool.eq_false_iff.2 b4
              by_cases b5 : (!Decidable.decide (List.getD (bytesOf x0) (Int.toNat v18) 0 ≤ 57)) = true
              · rw [if_pos b5] at h
                subst h
                exact AtV.fin Try.func42 tabOk ext42Ok mixed (p42_4 v18 x0) ⟨b0, s0, s1, b1, b2, b3, b4, b5, trivial⟩
              · rw [if_neg b5] at h
                replace b5 := Bool.eq_false_iff.2 b5
                obtain ⟨s2, h⟩ := h
                exact AtV.runN tabOk ext42Ok mixed (p42_5 v18 x0) ⟨b0, s0, s1, b1, b2, b3, b4, b5, s2, trivial⟩ (ih4 _ _ _ h w0 O q)
          · rw [if_neg b3] at h
            replace b3 := Bool.eq_false_iff.2 b3
            obtain ⟨s2, h⟩ := h
            exact AtV.runN tabOk ext42Ok mixed (p42_6 v18 x0) ⟨b0, s0, s1, b1, b2, b3, rfl, s2, trivial⟩ (ih4 _ _ _ h w0 O q)
        · rw [if_neg b2] at h
          replace b2 := Bool.eq_false_iff.2 b2
          by_cases b3 : (!Decidable.decide (List.getD (bytesOf x0) (Int.toNat v18) 0 ≤ 122)) = true
          · rw [if_pos b3] at h
            by_cases b4 : (v18 == 0) = true
            · rw [if_pos b4] at h
              subst h
              exact AtV.fin Try.func42 tabOk ext42Ok mixed (p42_7 v18 x0) ⟨b0, s0, s1, b1, b2, b3, b4, rfl, trivial⟩
            · rw [if_neg b4] at h
              replace b4 := Bool.eq_false_iff.2 b4
              subst h
              exact AtV.fin Try.func42 tabOk ext42Ok mixed (p42_8 v18 x0) ⟨b0, s0, s1, b1, b2, b3, b4, rfl, trivial⟩
          · rw [if_neg b3] at h
            replace b3 := Bool.eq_false_iff.2 b3
            obtain ⟨s2, h⟩ := h
            exact AtV.runN tabOk ext42Ok mixed (p42_9 v18 x0) ⟨b0, s0, s1, b1, b2, b3, rfl, s2, trivial⟩ (ih4 _ _ _ h w0 O q)
      · rw [if_neg b1] at h
        replace b1 := Bool.eq_false_iff.2 b1
        by_cases b2 : (Decidable.decide (List.getD (bytesOf x0) (Int.toNat v18) 0 ≥ 48)) = true
        · rw [if_pos b2] at h
          by_cases b3 : (v18 == 0) = true
          · rw [if_pos b3] at h
            subst h
            exact AtV.fin Try.func42 tabOk ext42Ok mixed (p42_10 v18 x0) ⟨b0, s0, s1, b1, b2, rfl, b3, rfl, trivial⟩
          · rw [if_neg b3] at h
            replace b3 := Bool.eq_false_iff.2 b3
            by_cases b4 : (!Decidable.decide (List.getD (bytesOf x0) (Int.toNat v18) 0 ≤ 57)) = true
            · rw [if_pos b4] at h
              subst h
              exact AtV.fin Try.func42 tabOk ext42Ok mixed (p42_11 v18 x0) ⟨b0, s0, s1, b1, b2, rfl, b3, b4, trivial⟩
            · rw [if_neg b4] at h
              replace b4 := Bool.eq_false_iff.2 b4
              obtain ⟨s2, h⟩ := h
              exact AtV.runN tabOk ext42Ok mixed (p42_12 v18 x0) ⟨b0, s0, s1, b1, b2, rfl, b3, b4, s2, trivial⟩ (ih4 _ _ _ h w0 O q)
        · rw [if_neg b2] at h
          replace b2 := Bool.eq_false_iff.2 b2
          by_cases b3 : (v18 == 0) = true
          · rw [if_pos b3] at h
            subst h
            exact AtV.fin Try.func42 tabOk ext42Ok mixed (p42_13 v18 x0) ⟨b0, s0, s1, b1, b2, rfl, b3, rfl, trivial⟩
          · rw [if_neg b3] at h
            replace b3 := Bool.eq_false_iff.2 b3
            subst h
            exact AtV.fin Try.func42 tabOk ext42Ok mixed (p42_14 v18 x0) ⟨b0, s0, s1, b1, b2, rfl, b3, rfl, trivial⟩
    · rw [if_neg b0] at h
      replace b0 := Bool.eq_false_iff.2 b0
      subst h
      exact AtV.fin Try.func42 tabOk ext42Ok mixed (p42_15 v18 x0) ⟨b0, trivial⟩



/-- A byte of a name, at its place. -/
def ok42 (i : Nat) (b : Int) : Bool := (decide (97 ≤ b) && decide (b ≤ 122)) || (!(i == 0) && (decide (48 ≤ b) && decide (b ≤ 57)))
def g42_0 (x0 : ByteArray) : Bool := decide (1 ≤ x0.size) && decide (x0.size ≤ 10) && allI ok42 0 (bytesOf x0)
def P42 (x0 : ByteArray) : Prop := True

theorem step42 (n i : Nat) (x0 : ByteArray) (hw : Wf .str x0) (hi : i < (bytesOf x0).length) (ds : List Dyn) :
    R42_4 (n + 1) (i : Int) x0 ds ↔ (if ok42 i ((bytesOf x0).getD i 0) = true then R42_4 n ((i : Int) + 1) x0 ds else ds = [⟨.bool, false⟩]) := by
  have hu := inR_up (xs := bytesOf x0) (by rw [bytesOf_length]; exact hw) hi
  rw [R42_4, if_pos (by simp; omega)]
  simp only [Int.toNat_natCast]
  have hb : (0 : Int) ≤ (i : Int) ∧ (i : Int) < ((bytesOf x0).length : Int) := by omega
  have hz : ((i : Int) == 0) = (i == 0) := by
    cases i with
    | zero => rfl
    | succ k => simp; omega
  simp only [hz, ok42, hu, true_and, hb.1, hb.2, ge_iff_le]
  by_cases h1 : (97 : Int) ≤ (bytesOf x0).getD i 0 <;> by_cases h2 : (bytesOf x0).getD i 0 ≤ 122 <;> by_cases h3 : (48 : Int) ≤ (bytesOf x0).getD i 0 <;> by_cases h4 : (bytesOf x0).getD i 0 ≤ 57 <;> rcases Bool.eq_false_or_eq_true (i == 0) with e0 | e0 <;> first | (exfalso; omega) | simp only [h1, h2, h3, h4, e0, decide_true, decide_false, Bool.not_true, Bool.not_false, Bool.true_and, Bool.false_and, Bool.and_true, Bool.and_false, Bool.true_or, Bool.or_true, Bool.or_false, Bool.false_or, if_true, if_false, Bool.false_eq_true]

theorem top42 (x0 : ByteArray) (hw : Wf .str x0) : R42 (x0.size + 1 + 1) x0 [⟨.bool, g42_0 x0⟩] := by
  have hl := bytesOf_length x0
  rw [R42]
  by_cases h0 : (x0.size : Int) < 1
  · rw [if_pos (by simpa using h0)]
    have : ¬ 1 ≤ x0.size := by omega
    simp [g42_0, this]
  · rw [if_neg (by simpa using h0)]
    by_cases h1 : (x0.size : Int) > 10
    · rw [if_pos (by simpa using h1)]
      have : ¬ x0.size ≤ 10 := by omega
      simp [g42_0, this]
    · rw [if_neg (by simpa using h1)]
      have key := loop_testI (bytesOf x0) 0 ok42 [(⟨.bool, false⟩ : Dyn)] [⟨.bool, true⟩] (fun n i ds => R42_4 n i x0 ds) (fun n => ?_) (fun n i hi hok ds hr => ?_) (fun n i hi hok => ?_)
      · rw [hl] at key
        have e : g42_0 x0 = allI ok42 0 (bytesOf x0) := by
          have a : 1 ≤ x0.size := by omega
          have b : x0.size ≤ 10 := by omega
          simp [g42_0, a, b]
        rw [e]
        cases h : allI ok42 0 (bytesOf x0) with
        | true => rw [if_pos h] at key; exact key
        | false => rw [if_neg (by rw [h]; simp)] at key; exact key
      · show R42_4 (n + 1) ((bytesOf x0).length : Int) x0 _
        rw [R42_4, if_neg (by simp)]
      · exact (step42 n i x0 hw hi ds).2 (by rw [if_pos hok]; exact hr)
      · exact (step42 n i x0 hw hi _).2 (by rw [if_neg (by rw [hok]; simp)])

def S42 : Am.Spec := { sig := sig42, pre := fun ⟨x0, _⟩ => P42 x0, res := fun ⟨x0, _⟩ => [⟨Ty.bool, g42_0 x0⟩] }
theorem con42 : Contract Try.prog 42 S42 := contract_of Try.func42 hb42 (Nat.le_of_ble_eq_true (by kernel_rfl)) (fun ⟨x0, _⟩ h hwf w0 O q =>
  (snd42 _).1 x0 _ (top42 x0 hwf.1) w0 O q)

end Go.Proofs.Ytakodkjcmacofaa

/- The contracts of the library that this program uses, laid at this program. Written by a tool of the kit. -/
set_option linter.unusedVariables false
set_option maxRecDepth 100000
namespace Go.Proofs
open Go.Shelf
def Try.lays144_ren : Go.Shelf.Ren := ⟨fun | 144 => 43 | 143 => 56 | 219 => 63 | 217 => 66 | 225 => 67 | 224 => 68 | 267 => 69 | 266 => 70 | 314 => 71 | n => n, fun | 9 => 9 | 4 => 4 | 3 => 3 | 5 => 5 | 46 => 83 | 146 => 93 | 51 => 92 | n => n, fun | 1 => 0 | n => n⟩
theorem Try.lays144 : Go.Proofs.Lays.n144 Try.prog Try.lays144_ren := {
  mixed := by kernel_rfl
  f143 := Try.func56.trans (congrArg some (by kernel_rfl))
  f144 := Try.func43.trans (congrArg some (by kernel_rfl))
  f217 := Try.func66.trans (congrArg some (by kernel_rfl))
  f219 := Try.func63.trans (congrArg some (by kernel_rfl))
  f224 := Try.func68.trans (congrArg some (by kernel_rfl))
  f225 := Try.func67.trans (congrArg some (by kernel_rfl))
  f266 := Try.func70.trans (congrArg some (by kernel_rfl))
  f267 := Try.func69.trans (congrArg some (by kernel_rfl))
  f314 := Try.func71.trans (congrArg some (by kernel_rfl))
  t3 := Try.underlying3
  a3 := Try.isAgg3
  z3 := Try.sizeOf3
  v3 := Try.zeroValue3
  t4 := Try.underlying4
  a4 := Try.isAgg4
  z4 := Try.sizeOf4
  v4 := Try.zeroValue4
  t5 := Try.underlying5
  a5 := Try.isAgg5
  z5 := Try.sizeOf5
  v5 := Try.zeroValue5
  t9 := Try.underlying9
  a9 := Try.isAgg9
  z9 := Try.sizeOf9
  v9 := Try.zeroValue9
  t46 := Try.underlying83
  a46 := Try.isAgg83
  z46 := Try.sizeOf83
  v46 := Try.zeroValue83
  t51 := Try.underlying92
  a51 := Try.isAgg92
  z51 := Try.sizeOf92
  v51 := Try.zeroValue92
  t146 := Try.underlying93
  a146 := Try.isAgg93
  z146 := Try.sizeOf93
  v146 := Try.zeroValue93
  g1 := by kernel_rfl }
open Go.RowKit Go.Lib in theorem Try.strings_Contains (s sub : ByteArray) (m : Int) (w : World) (hs : s.size < 4294967281) (hm : w.cell? ⟨0, 0, none⟩ = some (.int .i64 m)) :
    Calls Try.prog 43 #[.string s, .string sub] w fun e w' => e = .returned (.bool (Lib.contains s.data.toList sub.data.toList)) ∧ w' = w := Any.strings_Contains Try.lays144 s sub m w hs hm
end Go.Proofs

/- Function 43 (strings.Contains): its contract, off what is known of the library. -/
set_option linter.unusedVariables false
set_option linter.unusedSimpArgs false
set_option maxRecDepth 100000
namespace Go.Proofs.Ytakodkjcmacofaa
open Go Go.Am Go.Proofs

def sig43 : List AT := [AT.v Ty.str, AT.v Ty.str]
def g43_0 (x0 x1 : ByteArray) : Bool := Lib.contains x0.data.toList x1.data.toList
def P43 (x0 x1 : ByteArray) : Prop := x0.size < 4294967281
def S43 : Am.Spec := { sig := sig43, pre := fun ⟨x0, x1, _⟩ => P43 x0 x1, res := fun ⟨x0, x1, _⟩ => [⟨Ty.bool, g43_0 x0 x1⟩] }
theorem con43 : Contract Try.prog 43 S43 := contract_flat rfl fun w ⟨x0, x1, _⟩ vs bss hg hp hw ha => by
  obtain ⟨v0, s0, _, _, rfl, _, ⟨_, rfl, _⟩, v1, s1, _, _, rfl, _, ⟨_, rfl, _⟩, rfl, _⟩ := ha
  refine ⟨fun d hd => by rw [List.mem_singleton.1 hd]; exact ⟨rfl, trivial⟩, ?_⟩
  obtain ⟨m, hm⟩ := maxLenG hg
  refine (Try.strings_Contains x0 x1 m w hp hm).mono ?_
  rintro e w' ⟨rfl, rfl⟩
  exact ⟨rfl, Kept.refl _ _⟩

end Go.Proofs.Ytakodkjcmacofaa

/- Function 31 (impl.ValidBlock): its runs between cut points. Written by a program of this repo (gen). -/
set_option linter.unusedVariables false
set_option linter.unusedSimpArgs false
set_option maxRecDepth 100000
namespace Go.Proofs.Ytakodkjcmacofaa
open Go Go.Am Go.Proofs
def ext31 : Ext := [(42, S42), (43, S43)]
theorem call31_42 : Callable Try.prog 42 := ⟨Try.f42, Try.func42, by kernel_rfl, by kernel_rfl⟩
theorem call31_43 : Callable Try.prog 43 := ⟨Try.f43, Try.func43, by kernel_rfl, by kernel_rfl⟩
theorem ext31Ok : ExtOk Try.prog ext31 := ⟨⟨call31_42, con42⟩, ⟨call31_43, con43⟩, trivial⟩
/-! Function 31. -/
noncomputable def b31 : Code := bodyOf Try.f31
theorem hb31 : Try.f31.body = some b31 := by kernel_rfl
def sig31 : List AT := [AT.v (Ty.cons Ty.str (Ty.cons Ty.str (Ty.cons Ty.str Ty.unit)))]
def tys31 : List Ty := [Ty.bool]
def P31 (x0 : ByteArray × ByteArray × ByteArray × Unit) : Prop := (if (g42_0 (Prod.fst x0)) = true then (if (g42_0 (Prod.fst (Prod.snd x0))) = true then (if (Decidable.decide ((↑(ByteArray.size (Prod.fst (Prod.snd (Prod.snd x0)))) : Int) ≤ 400)) = true then ((P43 (Prod.fst (Prod.snd (Prod.snd x0))) (ByteArray.mk #[10])) ∧ True) else True) else True) else True)
def g31_0 (x0 : ByteArray × ByteArray × ByteArray × Unit) : Bool := (if (g42_0 (Prod.fst x0)) = true then (if (g42_0 (Prod.fst (Prod.snd x0))) = true then (if (Decidable.decide ((↑(ByteArray.size (Prod.fst (Prod.snd (Prod.snd x0)))) : Int) ≤ 400)) = true then !g43_0 (Prod.fst (Prod.snd (Prod.snd x0))) (ByteArray.mk #[10]) else Bool.false) else Bool.false) else Bool.false)
theorem p31_0 (x0 : ByteArray × ByteArray × ByteArray × Unit) : runF tab ext31 false 23 [] 2000 [] tys31 Try.f31.results [true, true, true] [.code b31] (entE 0 0 sig31 (x0, ())) (entL sig31 (x0, ())) = some ([Dyn.mk Ty.bool !g43_0 (Prod.fst (Prod.snd (Prod.snd x0))) (ByteArray.mk #[10])], [], [True, g42_0 (Prod.fst x0) = Bool.true, True, g42_0 (Prod.fst (Prod.snd x0)) = Bool.true, Decidable.decide ((↑(ByteArray.size (Prod.fst (Prod.snd (Prod.snd x0)))) : Int) ≤ 400) = Bool.true, P43 (Prod.fst (Prod.snd (Prod.snd x0))) (ByteArray.mk #[10])]) := by kernel_rfl
theorem p31_1 (x0 : ByteArray × ByteArray × ByteArray × Unit) : runF tab ext31 false 23 [] 2000 [] tys31 Try.f31.results [true, true, false] [.code b31] (entE 0 0 sig31 (x0, ())) (entL sig31 (x0, ())) = some ([Dyn.mk Ty.bool Bool.false], [], [True, g42_0 (Prod.fst x0) = Bool.true, True, g42_0 (Prod.fst (Prod.snd x0)) = Bool.true, Decidable.decide ((↑(ByteArray.size (Prod.fst (Prod.snd (Prod.snd x0)))) : Int) ≤ 400) = Bool.false]) := by kernel_rfl
theorem p31_2 (x0 : ByteArray × ByteArray × ByteArray × Unit) : runF tab ext31 false 23 [] 2000 [] tys31 Try.f31.results [true, false, false] [.code b31] (entE 0 0 sig31 (x0, ())) (entL sig31 (x0, ())) = some ([Dyn.mk Ty.bool Bool.false], [], [True, g42_0 (Prod.fst x0) = Bool.true, True, g42_0 (Prod.fst (Prod.snd x0)) = Bool.false, Bool.false = Bool.false]) := by kernel_rfl
theorem p31_3 (x0 : ByteArray × ByteArray × ByteArray × Unit) : runF tab ext31 false 23 [] 2000 [] tys31 Try.f31.results [false, false, false] [.code b31] (entE 0 0 sig31 (x0, ())) (entL sig31 (x0, ())) = some ([Dyn.mk Ty.bool Bool.false], [], [True, g42_0 (Prod.fst x0) = Bool.false, Bool.false = Bool.false, Bool.false = Bool.false]) := by kernel_rfl
theorem at31 (x0 : ByteArray × ByteArray × ByteArray × Unit) (h : P31 x0) (w0 : World) (O : List Nat) (q : Nat → Value) : AtV Try.prog 31 (PostR [⟨Ty.bool, g31_0 x0⟩] [] [] q w0 O) 23 w0 O q [] [.code b31] (entE 0 0 sig31 (x0, ())) (entL sig31 (x0, ())) := by
  unfold P31 at h
  unfold g31_0
  by_cases b0 : (g42_0 (Prod.fst x0)) = true
  · try simp only [if_pos b0] at h ⊢
    by_cases b1 : (g42_0 (Prod.fst (Prod.snd x0))) = true
    · try simp only [if_pos b1] at h ⊢
      by_cases b2 : (Decidable.decide ((↑(ByteArray.size (Prod.fst (Prod.snd (Prod.snd x0)))) : Int) ≤ 400)) = true
      · try simp only [if_pos b2] at h ⊢
        obtain ⟨s0, h⟩ := h
        exact AtV.fin Try.func31 tabOk ext31Ok mixed (p31_0 x0) ⟨trivial, b0, trivial, b1, b2, s0, trivial⟩
      · try simp only [if_neg b2] at h ⊢
        replace b2 := Bool.eq_false_iff.2 b2
        exact AtV.fin Try.func31 tabOk ext31Ok mixed (p31_1 x0) ⟨trivial, b0, trivial, b1, b2, trivial⟩
    · try simp only [if_neg b1] at h ⊢
      replace b1 := Bool.eq_false_iff.2 b1
      exact AtV.fin Try.func31 tabOk ext31Ok mixed (p31_2 x0) ⟨trivial, b0, trivial, b1, rfl, trivial⟩
  · try simp only [if_neg b0] at h ⊢
    replace b0 := Bool.eq_false_iff.2 b0
    exact AtV.fin Try.func31 tabOk ext31Ok mixed (p31_3 x0) ⟨trivial, b0, rfl, rfl, trivial⟩

def S31 : Am.Spec := { sig := sig31, pre := fun ⟨x0, _⟩ => P31 x0, res := fun ⟨x0, _⟩ => [⟨Ty.bool, g31_0 x0⟩] }
theorem con31 : Contract Try.prog 31 S31 := contract_of Try.func31 hb31 (Nat.le_of_ble_eq_true (by kernel_rfl)) (fun ⟨x0, _⟩ h _ w0 O q => at31 x0 h w0 O q)


theorem pre31 (x : ByteArray × ByteArray × ByteArray × Unit) : P31 x := by
  unfold P31
  split
  · split
    · split
      · rename_i h
        simp only [decide_eq_true_eq] at h
        refine ⟨?_, trivial⟩
        show x.2.2.1.size < 4294967281
        omega
      · trivial
    · trivial
  · trivial

end Go.Proofs.Ytakodkjcmacofaa

/- Function 59 (cmp.isNaN[string]): its runs between cut points. Written by a program of this repo (gen). -/
set_option linter.unusedVariables false
set_option linter.unusedSimpArgs false
set_option maxRecDepth 100000
namespace Go.Proofs.Ytakodkjcmacofaa
open Go Go.Am Go.Proofs
def ext59 : Ext := []
theorem ext59Ok : ExtOk Try.prog ext59 := trivial
/-! Function 59. -/
noncomputable def b59 : Code := bodyOf Try.f59
theorem hb59 : Try.f59.body = some b59 := by kernel_rfl
def sig59 : List AT := [AT.v (Ty.str)]
def tys59 : List Ty := [Ty.bool]
def P59 (x0 : ByteArray) : Prop := True
def g59_0 (x0 : ByteArray) : Bool := !ByteArray.toList x0 == ByteArray.toList x0
theorem p59_0 (x0 : ByteArray) : runF tab ext59 false 6 [] 2000 [] tys59 Try.f59.results [] [.code b59] (entE 0 0 sig59 (x0, ())) (entL sig59 (x0, ())) = some ([Dyn.mk Ty.bool !ByteArray.toList x0 == ByteArray.toList x0], [], []) := by kernel_rfl
theorem at59 (x0 : ByteArray) (h : P59 x0) (w0 : World) (O : List Nat) (q : Nat → Value) : AtV Try.prog 59 (PostR [⟨Ty.bool, g59_0 x0⟩] [] [] q w0 O) 6 w0 O q [] [.code b59] (entE 0 0 sig59 (x0, ())) (entL sig59 (x0, ())) := by
  unfold P59 at h
  unfold g59_0
  exact AtV.fin Try.func59 tabOk ext59Ok mixed (p59_0 x0) trivial

def S59 : Am.Spec := { sig := sig59, pre := fun ⟨x0, _⟩ => P59 x0, res := fun ⟨x0, _⟩ => [⟨Ty.bool, g59_0 x0⟩] }
theorem con59 : Contract Try.prog 59 S59 := contract_of Try.func59 hb59 (Nat.le_of_ble_eq_true (by kernel_rfl)) (fun ⟨x0, _⟩ h _ w0 O q => at59 x0 h w0 O q)


end Go.Proofs.Ytakodkjcmacofaa

/- Function 47 (cmp.Compare[string]): its runs between cut points. Written by a program of this repo (gen). -/
set_option linter.unusedVariables false
set_option linter.unusedSimpArgs false
set_option maxRecDepth 100000
namespace Go.Proofs.Ytakodkjcmacofaa
open Go Go.Am Go.Proofs
def ext47 : Ext := [(59, S59)]
theorem call47_59 : Callable Try.prog 59 := ⟨Try.f59, Try.func59, by kernel_rfl, by kernel_rfl⟩
theorem ext47Ok : ExtOk Try.prog ext47 := ⟨⟨call47_59, con59⟩, trivial⟩
/-! Function 47. -/
noncomputable def b47 : Code := bodyOf Try.f47
theorem hb47 : Try.f47.body = some b47 := by kernel_rfl
def sig47 : List AT := [AT.v (Ty.str), AT.v (Ty.str)]
def tys47 : List Ty := [Ty.int IntKind.i64]
def P47 (x0 : ByteArray) (x1 : ByteArray) : Prop := True
def g47_0 (x0 : ByteArray) (x1 : ByteArray) : Int := (if (g59_0 x0) = true then (if (g59_0 x1) = true then 0 else -1) else (if (g59_0 x1) = true then 1 else (if (Op.bytesLess (ByteArray.toList x0) (ByteArray.toList x1)) = true then -1 else (if (!(Op.bytesLess (ByteArray.toList x0) (ByteArray.toList x1) || ByteArray.toList x0 == ByteArray.toList x1)) = true then 1 else 0))))
theorem p47_0 (x0 : ByteArray) (x1 : ByteArray) : runF tab ext47 false 20 [] 2000 [] tys47 Try.f47.results [true, true] [.code b47] (entE 0 0 sig47 (x0, x1, ())) (entL sig47 (x0, x1, ())) = some ([Dyn.mk (Ty.int IntKind.i64) 0], [], [True, True, g59_0 x0 = Bool.true, g59_0 x1 = Bool.true]) := by kernel_rfl
theorem p47_1 (x0 : ByteArray) (x1 : ByteArray) : runF tab ext47 false 20 [] 2000 [] tys47 Try.f47.results [true, false] [.code b47] (entE 0 0 sig47 (x0, x1, ())) (entL sig47 (x0, x1, ())) = some ([Dyn.mk (Ty.int IntKind.i64) (-1)], [], [True, True, g59_0 x0 = Bool.true, g59_0 x1 = Bool.false]) := by kernel_rfl
theorem p47_2 (x0 : ByteArray) (x1 : ByteArray) : runF tab ext47 false 20 [] 2000 [] tys47 Try.f47.results [false, true] [.code b47] (entE 0 0 sig47 (x0, x1, ())) (entL sig47 (x0, x1, ())) = some ([Dyn.mk (Ty.int IntKind.i64) 1], [], [True, True, g59_0 x0 = Bool.false, g59_0 x1 = Bool.true]) := by kernel_rfl
theorem p47_3 (x0 : ByteArray) (x1 : ByteArray) : runF tab ext47 false 20 [] 2000 [] tys47 Try.f47.results [false, false, true] [.code b47] (entE 0 0 sig47 (x0, x1, ())) (entL sig47 (x0, x1, ())) = some ([Dyn.mk (Ty.int IntKind.i64) (-1)], [], [True, True, g59_0 x0 = Bool.false, g59_0 x1 = Bool.false, Op.bytesLess (ByteArray.toList x0) (ByteArray.toList x1) = Bool.true]) := by kernel_rfl
theorem p47_4 (x0 : ByteArray) (x1 : ByteArray) : runF tab ext47 false 20 [] 2000 [] tys47 Try.f47.results [false, false, false, true] [.code b47] (entE 0 0 sig47 (x0, x1, ())) (entL sig47 (x0, x1, ())) = some ([Dyn.mk (Ty.int IntKind.i64) 1], [], [True, True, g59_0 x0 = Bool.false, g59_0 x1 = Bool.false, Op.bytesLess (ByteArray.toList x0) (ByteArray.toList x1) = Bool.false, (!(Op.bytesLess (ByteArray.toList x0) (ByteArray.toList x1) || ByteArray.toList x0 == ByteArray.toList x1)) = Bool.true]) := by kernel_rfl
theorem p47_5 (x0 : ByteArray) (x1 : ByteArray) : runF tab ext47 false 20 [] 2000 [] tys47 Try.f47.results [false, false, false, false] [.code b47] (entE 0 0 sig47 (x0, x1, ())) (entL sig47 (x0, x1, ())) = some ([Dyn.mk (Ty.int IntKind.i64) 0], [], [True, True, g59_0 x0 = Bool.false, g59_0 x1 = Bool.false, Op.bytesLess (ByteArray.toList x0) (ByteArray.toList x1) = Bool.false, (!(Op.bytesLess (ByteArray.toList x0) (ByteArray.toList x1) || ByteArray.toList x0 == ByteArray.toList x1)) = Bool.false]) := by kernel_rfl
theorem at47 (x0 : ByteArray) (x1 : ByteArray) (h : P47 x0 x1) (w0 : World) (O : List Nat) (q : Nat → Value) : AtV Try.prog 47 (PostR [⟨Ty.int IntKind.i64, g47_0 x0 x1⟩] [] [] q w0 O) 20 w0 O q [] [.code b47] (entE 0 0 sig47 (x0, x1, ())) (entL sig47 (x0, x1, ())) := by
  unfold P47 at h
  unfold g47_0
  by_cases b0 : (g59_0 x0) = true
  · try simp only [if_pos b0] at h ⊢
    by_cases b1 : (g59_0 x1) = true
    · try simp only [if_pos b1] at h ⊢
      exact AtV.fin Try.func47 tabOk ext47Ok mixed (p47_0 x0 x1) ⟨trivial, trivial, b0, b1, trivial⟩
    · try simp only [if_neg b1] at h ⊢
      replace b1 := Bool.eq_false_iff.2 b1
      exact AtV.fin Try.func47 tabOk ext47Ok mixed (p47_1 x0 x1) ⟨trivial, trivial, b0, b1, trivial⟩
  · try simp only [if_neg b0] at h ⊢
    replace b0 := Bool.eq_false_iff.2 b0
    by_cases b1 : (g59_0 x1) = true
    · try simp only [if_pos b1] at h ⊢
      exact AtV.fin Try.func47 tabOk ext47Ok mixed (p47_2 x0 x1) ⟨trivial, trivial, b0, b1, trivial⟩
    · try simp only [if_neg b1] at h ⊢
      replace b1 := Bool.eq_false_iff.2 b1
      by_cases b2 : (Op.bytesLess (ByteArray.toList x0) (ByteArray.toList x1)) = true
      · try simp only [if_pos b2] at h ⊢
        exact AtV.fin Try.func47 tabOk ext47Ok mixed (p47_3 x0 x1) ⟨trivial, trivial, b0, b1, b2, trivial⟩
      · try simp only [if_neg b2] at h ⊢
        replace b2 := Bool.eq_false_iff.2 b2
        by_cases b3 : (!(Op.bytesLess (ByteArray.toList x0) (ByteArray.toList x1) || ByteArray.toList x0 == ByteArray.toList x1)) = true
        · try simp only [if_pos b3] at h ⊢
          exact AtV.fin Try.func47 tabOk ext47Ok mixed (p47_4 x0 x1) ⟨trivial, trivial, b0, b1, b2, b3, trivial⟩
        · try simp only [if_neg b3] at h ⊢
          replace b3 := Bool.eq_false_iff.2 b3
          exact AtV.fin Try.func47 tabOk ext47Ok mixed (p47_5 x0 x1) ⟨trivial, trivial, b0, b1, b2, b3, trivial⟩

def S47 : Am.Spec := { sig := sig47, pre := fun ⟨x0, x1, _⟩ => P47 x0 x1, res := fun ⟨x0, x1, _⟩ => [⟨Ty.int IntKind.i64, g47_0 x0 x1⟩] }
theorem con47 : Contract Try.prog 47 S47 := contract_of Try.func47 hb47 (Nat.le_of_ble_eq_true (by kernel_rfl)) (fun ⟨x0, x1, _⟩ h _ w0 O q => at47 x0 x1 h w0 O q)


end Go.Proofs.Ytakodkjcmacofaa

/- Function 46 (cmp.Or[int]): its runs between cut points. Written by a program of this repo (gen). -/
set_option linter.unusedVariables false
set_option linter.unusedSimpArgs false
set_option maxRecDepth 100000
namespace Go.Proofs.Ytakodkjcmacofaa
open Go Go.Am Go.Proofs
def ext46 : Ext := []
theorem ext46Ok : ExtOk Try.prog ext46 := trivial
/-! Function 46. -/
noncomputable def b46 : Code := bodyOf Try.f46
theorem hb46 : Try.f46.body = some b46 := by kernel_rfl
def sig46 : List AT := [AT.v (Ty.sl (Ty.int IntKind.i64))]
def tys46 : List Ty := [Ty.int IntKind.i64]
def E46_3 (v8 : Int) (x0 : List Int) : Env := [(3, PV.a (Atom.val (Value.int IntKind.i64 0))), (6, PV.a (Atom.sl (Ty.int IntKind.i64) x0)), (7, PV.a (Atom.val (Value.int IntKind.i64 (↑(List.length x0) : Int)))), (8, PV.a (Atom.val (Value.int IntKind.i64 v8)))]
def L46_3 (v8 : Int) (x0 : List Int) : Heap := []
mutual
def R46 : Nat → List Int → List Dyn → Prop
  | 0, _, _ => False
  | n + 1, x0, ds => (R46_3 n (0) (x0) ds)
def R46_3 : Nat → Int → List Int → List Dyn → Prop
  | 0, _, _, _ => False
  | n + 1, v8, x0, ds => (if (Decidable.decide (v8 < (↑(List.length x0) : Int))) = true then ((0 ≤ v8) ∧ (v8 < (↑(List.length x0) : Int)) ∧ (if (List.getD x0 (Int.toNat v8) 0 != 0) = true then (ds = [Dyn.mk (Ty.int IntKind.i64) (List.getD x0 (Int.toNat v8) 0)]) else ((InR IntKind.i64 (v8 + 1)) ∧ (R46_3 n (v8 + 1) (x0) ds)))) else (ds = [Dyn.mk (Ty.int IntKind.i64) 0]))
end
theorem p46_0 (x0 : List Int) : Am.runN tab ext46 false 18 [] 2000 [] [] [3, 6, 7, 8] [] [] [.code b46] (entE 0 0 sig46 (x0, ())) (entL sig46 (x0, ())) = some (cutAt b46 3, E46_3 (0) (x0), L46_3 (0) (x0), []) := by kernel_rfl
theorem p46_1 (v8 : Int) (x0 : List Int) : runF tab ext46 false 18 [] 2000 [] tys46 Try.f46.results [true, true] (cutAt b46 3) (E46_3 v8 x0) (L46_3 v8 x0) = some ([Dyn.mk (Ty.int IntKind.i64) (List.getD x0 (Int.toNat v8) 0)], [], [Decidable.decide (v8 < (↑(List.length x0) : Int)) = Bool.true, 0 ≤ v8, v8 < (↑(List.length x0) : Int), (List.getD x0 (Int.toNat v8) 0 != 0) = Bool.true]) := by kernel_rfl
theorem p46_2 (v8 : Int) (x0 : List Int) : Am.runN tab ext46 false 18 [] 2000 [] [] [3, 6, 7, 8] [] [true, false] (cutAt b46 3) (E46_3 v8 x0) (L46_3 v8 x0) = some (cutAt b46 3, E46_3 (v8 + 1) (x0), L46_3 (v8 + 1) (x0), [Decidable.decide (v8 < (↑(List.length x0) : Int)) = Bool.true, 0 ≤ v8, v8 < (↑(List.length x0) : Int), (List.getD x0 (Int.toNat v8) 0 != 0) = Bool.false, InR IntKind.i64 (v8 + 1)]) := by kernel_rfl
theorem p46_3 (v8 : Int) (x0 : List Int) : runF tab ext46 false 18 [] 2000 [] tys46 Try.f46.results [false] (cutAt b46 3) (E46_3 v8 x0) (L46_3 v8 x0) = some ([Dyn.mk (Ty.int IntKind.i64) 0], [], [Decidable.decide (v8 < (↑(List.length x0) : Int)) = Bool.false]) := by kernel_rfl
theorem snd46 : ∀ n, (∀ (x0 : List Int) ds, R46 n x0 ds → ∀ w0 O q, AtV Try.prog 46 (PostR ds [] [] q w0 O) 18 w0 O q [] [.code b46] (entE 0 0 sig46 (x0, ())) (entL sig46 (x0, ()))) ∧ (∀ (v8 : Int) (x0 : List Int) ds, R46_3 n v8 x0 ds → ∀ w0 O q, AtV Try.prog 46 (PostR ds [] [] q w0 O) 18 w0 O q [] (cutAt b46 3) (E46_3 v8 x0) (L46_3 v8 x0)) := by
  intro n
  induction n with
  | zero => exact ⟨fun _ _ h => by simp only [R46] at h, fun _ _ _ h => by simp only [R46_3] at h⟩
  | succ n ih =>
  obtain ⟨ih, ih3⟩ := ih
  refine ⟨?_, ?_⟩
  · intro x0 ds h w0 O q
    rw [R46] at h
    exact AtV.runN tabOk ext46Ok mixed (p46_0 x0) trivial (ih3 _ _ _ h w0 O q)

  · intro v8 x0 ds h w0 O q
    rw [R46_3] at h
    by_cases b0 : (Decidable.decide (v8 < (↑(List.length x0) : Int))) = true
    · rw [if_pos b0] at h
      obtain ⟨s0, s1, h⟩ := h
      by_cases b1 : (List.getD x0 (Int.toNat v8) 0 != 0) = true
      · rw [if_pos b1] at h
        subst h
        exact AtV.fin Try.func46 tabOk ext46Ok mixed (p46_1 v8 x0) ⟨b0, s0, s1, b1, trivial⟩
      · rw [if_neg b1] at h
        replace b1 := Bool.eq_false_iff.2 b1
        obtain ⟨s2, h⟩ := h
        exact AtV.runN tabOk ext46Ok mixed (p46_2 v8 x0) ⟨b0, s0, s1, b1, s2, trivial⟩ (ih3 _ _ _ h w0 O q)
    · rw [if_neg b0] at h
      replace b0 := Bool.eq_false_iff.2 b0
      subst h
      exact AtV.fin Try.func46 tabOk ext46Ok mixed (p46_3 v8 x0) ⟨b0, trivial⟩



def g46_0 : List Int → Int
  | [] => 0
  | x :: r => if x != 0 then x else g46_0 r
def P46 (x0 : List Int) : Prop := True

theorem goL46 : ∀ (xs : List Int), goL (fun (_ : Unit) (x : Int) => if (x != 0) = true then Except.error [(⟨.int .i64, x⟩ : Dyn)] else .ok ()) (fun _ => [⟨.int .i64, (0 : Int)⟩]) () xs = [⟨.int .i64, g46_0 xs⟩]
  | [] => rfl
  | x :: r => by
    simp only [goL, g46_0]
    cases h : x != 0 with
    | true => simp
    | false => simpa using goL46 r

theorem top46 (x0 : List Int) (hm : x0.length ≤ maxLen) : R46 (x0.length + 1 + 1) x0 [⟨.int .i64, g46_0 x0⟩] := by
  rw [R46, ← goL46]
  refine loop_all x0 0 _ _ (fun _ _ => True) (fun n i _ ds => R46_3 n i x0 ds) trivial ?_ ?_
  · intro n b _
    show R46_3 (n + 1) x0.length x0 _
    rw [R46_3, if_neg (by simp)]
  · intro n i b hi _
    cases h : (x0.getD i 0 != 0) with
    | true =>
      show R46_3 (n + 1) (i : Int) x0 _
      rw [R46_3, if_pos (by simp; omega)]
      refine ⟨by omega, by omega, ?_⟩
      simp only [Int.toNat_natCast]
      rw [if_pos h] <;> trivial
    | false =>
      refine ⟨trivial, fun ds hr => ?_⟩
      rw [R46_3, if_pos (by simp; omega)]
      refine ⟨by omega, by omega, ?_⟩
      simp only [Int.toNat_natCast]
      rw [if_neg (by rw [h]; simp)]
      exact ⟨inR_up hm hi, hr⟩

def S46 : Am.Spec := { sig := sig46, pre := fun ⟨x0, _⟩ => P46 x0, res := fun ⟨x0, _⟩ => [⟨Ty.int .i64, g46_0 x0⟩] }
theorem con46 : Contract Try.prog 46 S46 := contract_of Try.func46 hb46 (Nat.le_of_ble_eq_true (by kernel_rfl)) (fun ⟨x0, _⟩ h hwf w0 O q =>
  (snd46 _).1 x0 _ (top46 x0 hwf.1.1) w0 O q)

end Go.Proofs.Ytakodkjcmacofaa

/- Function 37 (impl.compareBlocks): its runs between cut points. Written by a program of this repo (gen). -/
set_option linter.unusedVariables false
set_option linter.unusedSimpArgs false
set_option maxRecDepth 100000
namespace Go.Proofs.Ytakodkjcmacofaa
open Go Go.Am Go.Proofs
def ext37 : Ext := [(47, S47), (46, S46)]
theorem call37_47 : Callable Try.prog 47 := ⟨Try.f47, Try.func47, by kernel_rfl, by kernel_rfl⟩
theorem call37_46 : Callable Try.prog 46 := ⟨Try.f46, Try.func46, by kernel_rfl, by kernel_rfl⟩
theorem ext37Ok : ExtOk Try.prog ext37 := ⟨⟨call37_47, con47⟩, ⟨call37_46, con46⟩, trivial⟩
/-! Function 37. -/
noncomputable def b37 : Code := bodyOf Try.f37
theorem hb37 : Try.f37.body = some b37 := by kernel_rfl
def sig37 : List AT := [AT.v (Ty.cons Ty.str (Ty.cons Ty.str (Ty.cons Ty.str Ty.unit))), AT.v (Ty.cons Ty.str (Ty.cons Ty.str (Ty.cons Ty.str Ty.unit)))]
def tys37 : List Ty := [Ty.int IntKind.i64]
def P37 (x0 : ByteArray × ByteArray × ByteArray × Unit) (x1 : ByteArray × ByteArray × ByteArray × Unit) : Prop := True
def g37_0 (x0 : ByteArray × ByteArray × ByteArray × Unit) (x1 : ByteArray × ByteArray × ByteArray × Unit) : Int := g46_0 [g47_0 (Prod.fst x0) (Prod.fst x1), g47_0 (Prod.fst (Prod.snd x0)) (Prod.fst (Prod.snd x1))]
theorem p37_0 (x0 : ByteArray × ByteArray × ByteArray × Unit) (x1 : ByteArray × ByteArray × ByteArray × Unit) : runF tab ext37 false 17 [] 2000 [] tys37 Try.f37.results [] [.code b37] (entE 0 0 sig37 (x0, x1, ())) (entL sig37 (x0, x1, ())) = some ([Dyn.mk (Ty.int IntKind.i64) (g46_0 [g47_0 (Prod.fst x0) (Prod.fst x1), g47_0 (Prod.fst (Prod.snd x0)) (Prod.fst (Prod.snd x1))])], [], [True, True, True]) := by kernel_rfl
theorem at37 (x0 : ByteArray × ByteArray × ByteArray × Unit) (x1 : ByteArray × ByteArray × ByteArray × Unit) (h : P37 x0 x1) (w0 : World) (O : List Nat) (q : Nat → Value) : AtV Try.prog 37 (PostR [⟨Ty.int IntKind.i64, g37_0 x0 x1⟩] [] [] q w0 O) 17 w0 O q [] [.code b37] (entE 0 0 sig37 (x0, x1, ())) (entL sig37 (x0, x1, ())) := by
  unfold P37 at h
  unfold g37_0
  exact AtV.fin Try.func37 tabOk ext37Ok mixed (p37_0 x0 x1) ⟨trivial, trivial, trivial, trivial⟩

def S37 : Am.Spec := { sig := sig37, pre := fun ⟨x0, x1, _⟩ => P37 x0 x1, res := fun ⟨x0, x1, _⟩ => [⟨Ty.int IntKind.i64, g37_0 x0 x1⟩] }
theorem con37 : Contract Try.prog 37 S37 := contract_of Try.func37 hb37 (Nat.le_of_ble_eq_true (by kernel_rfl)) (fun ⟨x0, x1, _⟩ h _ w0 O q => at37 x0 x1 h w0 O q)


end Go.Proofs.Ytakodkjcmacofaa

/- Function 24 (impl.ValidBlocks): its runs between cut points. Written by a program of this repo (gen). -/
set_option linter.unusedVariables false
set_option linter.unusedSimpArgs false
set_option maxRecDepth 100000
namespace Go.Proofs.Ytakodkjcmacofaa
open Go Go.Am Go.Proofs
def ext24 : Ext := [(31, S31), (37, S37)]
theorem call24_31 : Callable Try.prog 31 := ⟨Try.f31, Try.func31, by kernel_rfl, by kernel_rfl⟩
theorem call24_37 : Callable Try.prog 37 := ⟨Try.f37, Try.func37, by kernel_rfl, by kernel_rfl⟩
theorem ext24Ok : ExtOk Try.prog ext24 := ⟨⟨call24_31, con31⟩, ⟨call24_37, con37⟩, trivial⟩
/-! Function 24. -/
noncomputable def b24 : Code := bodyOf Try.f24
theorem hb24 : Try.f24.body = some b24 := by kernel_rfl
def sig24 : List AT := [AT.v (Ty.sl (Ty.cons Ty.str (Ty.cons Ty.str (Ty.cons Ty.str Ty.unit))))]
def tys24 : List Ty := [Ty.bool]
def E24_2 (v7 : Int) (x0 : List (ByteArray × ByteArray × ByteArray × Unit)) : Env := [(0, PV.a (Atom.sl (Ty.cons Ty.str (Ty.cons Ty.str (Ty.cons Ty.str Ty.unit))) x0)), (5, PV.a (Atom.sl (Ty.cons Ty.str (Ty.cons Ty.str (Ty.cons Ty.str Ty.unit))) x0)), (6, PV.a (Atom.val (Value.int IntKind.i64 (↑(List.length x0) : Int)))), (7, PV.a (Atom.val (Value.int IntKind.i64 v7)))]
def L24_2 (v7 : Int) (x0 : List (ByteArray × ByteArray × ByteArray × Unit)) : Heap := []
mutual
def R24 : Nat → List (ByteArray × ByteArray × ByteArray × Unit) → List Dyn → Prop
  | 0, _, _ => False
  | n + 1, x0, ds => (R24_2 n (0) (x0) ds)
def R24_2 : Nat → Int → List (ByteArray × ByteArray × ByteArray × Unit) → List Dyn → Prop
  | 0, _, _, _ => False
  | n + 1, v7, x0, ds => (if (Decidable.decide (v7 < (↑(List.length x0) : Int))) = true then ((0 ≤ v7) ∧ (v7 < (↑(List.length x0) : Int)) ∧ ((P31 (List.getD x0 (Int.toNat v7) (ByteArray.empty, ByteArray.empty, ByteArray.empty, ()))) ∧ (if (!g31_0 (List.getD x0 (Int.toNat v7) (ByteArray.empty, ByteArray.empty, ByteArray.empty, ()))) = true then (ds = [Dyn.mk Ty.bool Bool.false]) else (if (Decidable.decide (v7 > 0)) = true then ((InR IntKind.i64 (v7 - 1)) ∧ ((0 ≤ v7 - 1) ∧ (v7 - 1 < (↑(List.length x0) : Int)) ∧ (if (Decidable.decide (g37_0 (List.getD x0 (Int.toNat (v7 - 1)) (ByteArray.empty, ByteArray.empty, ByteArray.empty, ())) (List.getD x0 (Int.toNat v7) (ByteArray.empty, ByteArray.empty, ByteArray.empty, ())) ≥ 0)) = true then (ds = [Dyn.mk Ty.bool Bool.false]) else ((InR IntKind.i64 (v7 + 1)) ∧ (R24_2 n (v7 + 1) (x0) ds))))) else ((InR IntKind.i64 (v7 + 1)) ∧ (R24_2 n (v7 + 1) (x0) ds)))))) else (ds = [Dyn.mk Ty.bool (Decidable.decide ((↑(List.length x0) : Int) ≤ 32))]))
end
theorem p24_0 (x0 : List (ByteArray × ByteArray × ByteArray × Unit)) : Am.runN tab ext24 false 33 [] 2000 [] [] [0, 5, 6, 7] [] [] [.code b24] (entE 0 0 sig24 (x0, ())) (entL sig24 (x0, ())) = some (cutAt b24 2, E24_2 (0) (x0), L24_2 (0) (x0), []) := by kernel_rfl
theorem p24_1 (v7 : Int) (x0 : List (ByteArray × ByteArray × ByteArray × Unit)) : runF tab ext24 false 33 [] 2000 [] tys24 Try.f24.results [true, true, true] (cutAt b24 2) (E24_2 v7 x0) (L24_2 v7 x0) = some ([Dyn.mk Ty.bool Bool.false], [], [Decidable.decide (v7 < (↑(List.length x0) : Int)) = Bool.true, 0 ≤ v7, v7 < (↑(List.length x0) : Int), P31 (List.getD x0 (Int.toNat v7) (ByteArray.empty, ByteArray.empty, ByteArray.empty, ())), (!g31_0 (List.getD x0 (Int.toNat v7) (ByteArray.empty, ByteArray.empty, ByteArray.empty, ()))) = Bool.true, Bool.true = Bool.true]) := by kernel_rfl
theorem p24_2 (v7 : Int) (x0 : List (ByteArray × ByteArray × ByteArray × Unit)) : runF tab ext24 false 33 [] 2000 [] tys24 Try.f24.results [true, false, true, true] (cutAt b24 2) (E24_2 v7 x0) (L24_2 v7 x0) = some ([Dyn.mk Ty.bool Bool.false], [], [Decidable.decide (v7 < (↑(List.length x0) : Int)) = Bool.true, 0 ≤ v7, v7 < (↑(List.length x0) : Int), P31 (List.getD x0 (Int.toNat v7) (ByteArray.empty, ByteArray.empty, ByteArray.empty, ())), (!g31_0 (List.getD x0 (Int.toNat v7) (ByteArray.empty, ByteArray.empty, ByteArray.empty, ()))) = Bool.false, Decidable.decide (v7 > 0) = Bool.true, InR IntKind.i64 (v7 - 1), 0 ≤ v7 - 1, v7 - 1 < (↑(List.length x0) : Int), True, Decidable.decide (g37_0 (List.getD x0 (Int.toNat (v7 - 1)) (ByteArray.empty, ByteArray.empty, ByteArray.empty, ())) (List.getD x0 (Int.toNat v7) (ByteArray.empty, ByteArray.empty, ByteArray.empty, ())) ≥ 0) = Bool.true]) := by kernel_rfl
theorem p24_3 (v7 : Int) (x0 : List (ByteArray × ByteArray × ByteArray × Unit)) : Am.runN tab ext24 false 33 [] 2000 [] [] [0, 5, 6, 7] [] [true, false, true, false] (cutAt b24 2) (E24_2 v7 x0) (L24_2 v7 x0) = some (cutAt b24 2, E24_2 (v7 + 1) (x0), L24_2 (v7 + 1) (x0), [Decidable.decide (v7 < (↑(List.length x0) : Int)) = Bool.true, 0 ≤ v7, v7 < (↑(List.length x0) : Int), P31 (List.getD x0 (Int.toNat v7) (ByteArray.empty, ByteArray.empty, ByteArray.empty, ())), (!g31_0 (List.getD x0 (Int.toNat v7) (ByteArray.empty, ByteArray.empty, ByteArray.empty, ()))) = Bool.false, Decidable.decide (v7 > 0) = Bool.true, InR IntKind.i64 (v7 - 1), 0 ≤ v7 - 1, v7 - 1 < (↑(List.length x0) : Int), True, Decidable.decide (g37_0 (List.getD x0 (Int.toNat (v7 - 1)) (ByteArray.empty, ByteArray.empty, ByteArray.empty, ())) (List.getD x0 (Int.toNat v7) (ByteArray.empty, ByteArray.empty, ByteArray.empty, ())) ≥ 0) = Bool.false, InR IntKind.i64 (v7 + 1)]) := by kernel_rfl
theorem p24_4 (v7 : Int) (x0 : List (ByteArray × ByteArray × ByteArray × Unit)) : Am.runN tab ext24 false 33 [] 2000 [] [] [0, 5, 6, 7] [] [true, false, false, false] (cutAt b24 2) (E24_2 v7 x0) (L24_2 v7 x0) = some (cutAt b24 2, E24_2 (v7 + 1) (x0), L24_2 (v7 + 1) (x0), [Decidable.decide (v7 < (↑(List.length x0) : Int)) = Bool.true, 0 ≤ v7, v7 < (↑(List.length x0) : Int), P31 (List.getD x0 (Int.toNat v7) (ByteArray.empty, ByteArray.empty, ByteArray.empty, ())), (!g31_0 (List.getD x0 (Int.toNat v7) (ByteArray.empty, ByteArray.empty, ByteArray.empty, ()))) = Bool.false, Decidable.decide (v7 > 0) = Bool.false, Bool.false = Bool.false, InR IntKind.i64 (v7 + 1)]) := by kernel_rfl
theorem p24_5 (v7 : Int) (x0 : List (ByteArray × ByteArray × ByteArray × Unit)) : runF tab ext24 false 33 [] 2000 [] tys24 Try.f24.results [false] (cutAt b24 2) (E24_2 v7 x0) (L24_2 v7 x0) = some ([Dyn.mk Ty.bool (Decidable.decide ((↑(List.length x0) : Int) ≤ 32))], [], [Decidable.decide (v7 < (↑(List.length x0) : Int)) = Bool.false]) := by kernel_rfl
theorem snd24 : ∀ n, (∀ (x0 : List (ByteArray × ByteArray × ByteArray × Unit)) ds, R24 n x0 ds → ∀ w0 O q, AtV Try.prog 24 (PostR ds [] [] q w0 O) 33 w0 O q [] [.code b24] (entE 0 0 sig24 (x0, ())) (entL sig24 (x0, ()))) ∧ (∀ (v7 : Int) (x0 : List (ByteArray × ByteArray × ByteArray × Unit)) ds, R24_2 n v7 x0 ds → ∀ w0 O q, AtV Try.prog 24 (PostR ds [] [] q w0 O) 33 w0 O q [] (cutAt b24 2) (E24_2 v7 x0) (L24_2 v7 x0)) := by
  intro n
  induction n with
  | zero => exact ⟨fun _ _ h => by simp only [R24] at h, fun _ _ _ h => by simp only [R24_2] at h⟩
  | succ n ih =>
  obtain ⟨ih, ih2⟩ := ih
  refine ⟨?_, ?_⟩
  · intro x0 ds h w0 O q
    rw [R24] at h
    exact AtV.runN tabOk ext24Ok mixed (p24_0 x0) trivial (ih2 _ _ _ h w0 O q)

  · intro v7 x0 ds h w0 O q
    rw [R24_2] at h
    by_cases b0 : (Decidable.decide (v7 < (↑(List.length x0) : Int))) = true
    · rw [if_pos b0] at h
      obtain ⟨s0, s1, h⟩ := h
      obtain ⟨s2, h⟩ := h
      by_cases b1 : (!g31_0 (List.getD x0 (Int.toNat v7) (ByteArray.empty, ByteArray.empty, ByteArray.empty, ()))) = true
      · rw [if_pos b1] at h
        subst h
        exact AtV.fin Try.func24 tabOk ext24Ok mixed (p24_1 v7 x0) ⟨b0, s0, s1, s2, b1, rfl, trivial⟩
      · rw [if_neg b1] at h
        replace b1 := Bool.eq_false_iff.2 b1
        by_cases b2 : (Decidable.decide (v7 > 0)) = true
        · rw [if_pos b2] at h
          obtain ⟨s3, h⟩ := h
          obtain ⟨s4, s5, h⟩ := h
          by_cases b3 : (Decidable.decide (g37_0 (List.getD x0 (Int.toNat (v7 - 1)) (ByteArray.empty, ByteArray.empty, ByteArray.empty, ())) (List.getD x0 (Int.toNat v7) (ByteArray.empty, ByteArray.empty, ByteArray.empty, ())) ≥ 0)) = true
          · rw [if_pos b3] at h
            subst h
            exact AtV.fin Try.func24 tabOk ext24Ok mixed (p24_2 v7 x0) ⟨b0, s0, s1, s2, b1, b2, s3, s4, s5, trivial, b3, trivial⟩
          · rw [if_neg b3] at h
            replace b3 := Bool.eq_false_iff.2 b3
            obtain ⟨s6, h⟩ := h
            exact AtV.runN tabOk ext24Ok mixed (p24_3 v7 x0) ⟨b0, s0, s1, s2, b1, b2, s3, s4, s5, trivial, b3, s6, trivial⟩ (ih2 _ _ _ h w0 O q)
        · rw [if_neg b2] at h
          replace b2 := Bool.eq_false_iff.2 b2
          obtain ⟨s3, h⟩ := h
          exact AtV.runN tabOk ext24Ok mixed (p24_4 v7 x0) ⟨b0, s0, s1, s2, b1, b2, rfl, s3, trivial⟩ (ih2 _ _ _ h w0 O q)
    · rw [if_neg b0] at h
      replace b0 := Bool.eq_false_iff.2 b0
      subst h
      exact AtV.fin Try.func24 tabOk ext24Ok mixed (p24_5 v7 x0) ⟨b0, trivial⟩



/-- A block at its place. -/
def ok24 (x0 : List (ByteArray × ByteArray × ByteArray × Unit)) (i : Nat) (x : ByteArray × ByteArray × ByteArray × Unit) : Bool :=
  g31_0 x && (i == 0 || !decide (g37_0 (x0.getD (i - 1) (ByteArray.empty, ByteArray.empty, ByteArray.empty, ())) x ≥ 0))
def g24_0 (x0 : List (ByteArray × ByteArray × ByteArray × Unit)) : Bool := allI (ok24 x0) 0 x0 && decide (x0.length ≤ 32)
def P24 (x0 : List (ByteArray × ByteArray × ByteArray × Unit)) : Prop := True

theorem step24 (n i : Nat) (x0 : List (ByteArray × ByteArray × ByteArray × Unit)) (hm : x0.length ≤ maxLen) (hi : i < x0.length) (ds : List Dyn) :
    (if ok24 x0 i (x0.getD i (ByteArray.empty, ByteArray.empty, ByteArray.empty, ())) = true then R24_2 n ((i : Int) + 1) x0 ds else ds = [⟨.bool, false⟩]) → R24_2 (n + 1) (i : Int) x0 ds := by
  intro h
  have hu := inR_up hm hi
  rw [R24_2, if_pos (by simp; omega)]
  refine ⟨by omega, by omega, ?_⟩
  simp only [Int.toNat_natCast]
  unfold ok24 at h
  refine ⟨pre31 _, ?_⟩
  by_cases h1 : g31_0 (x0.getD i (ByteArray.empty, ByteArray.empty, ByteArray.empty, ())) = true
  case neg =>
    have h1 := Bool.eq_false_iff.2 h1
    rw [h1] at h
    rw [if_pos (by rw [h1]; rfl)]
    simpa using h
  case pos =>
    rw [h1] at h
    rw [if_neg (by rw [h1]; simp)]
    by_cases h0 : (i : Int) > 0
    · rw [if_pos (by simpa using h0)]
      have hi0 : (i == 0) = false := by simp; omega
      have e : ((i : Int) - 1).toNat = i - 1 := by omega
      refine ⟨by rw [i64_iff]; have : maxLen ≤ 9223372036854775807 := by decide
                 omega, by omega, by omega, ?_⟩
      rw [e]
      by_cases h2 : g37_0 (x0.getD (i - 1) (ByteArray.empty, ByteArray.empty, ByteArray.empty, ())) (x0.getD i (ByteArray.empty, ByteArray.empty, ByteArray.empty, ())) ≥ 0
      · rw [if_pos (by simpa using h2)]
        rw [hi0, decide_eq_true h2] at h
        simpa using h
      · rw [if_neg (by simpa using h2)]
        rw [hi0, decide_eq_false h2] at h
        exact ⟨hu, by simpa using h⟩
    · rw [if_neg (by simpa using h0)]
      have hi0 : (i == 0) = true := by simp; omega
      rw [hi0] at h
      exact ⟨hu, by simpa using h⟩

theorem top24 (x0 : List (ByteArray × ByteArray × ByteArray × Unit)) (hw : x0.length ≤ maxLen) : R24 (x0.length + 1 + 1) x0 [⟨.bool, g24_0 x0⟩] := by
  rw [R24]
  have key := loop_testI x0 (ByteArray.empty, ByteArray.empty, ByteArray.empty, ()) (ok24 x0) [(⟨.bool, false⟩ : Dyn)] [⟨.bool, decide (x0.length ≤ 32)⟩] (fun n i ds => R24_2 n i x0 ds) (fun n => ?_) (fun n i hi hok ds hr => ?_) (fun n i hi hok => ?_)
  · unfold g24_0
    cases h : allI (ok24 x0) 0 x0 with
    | true => rw [if_pos h] at key; simpa using key
    | false => rw [if_neg (by rw [h]; simp)] at key; simpa using key
  · rw [R24_2, if_neg (by simp)]
    have hc : decide ((x0.length : Int) ≤ 32) = decide (x0.length ≤ 32) := by
      congr 1; exact propext ⟨fun h => by omega, fun h => by omega⟩
    rw [hc]
  · exact step24 n i x0 hw hi ds (by rw [if_pos hok]; exact hr)
  · exact step24 n i x0 hw hi _ (by rw [if_neg (by rw [hok]; simp)])

def S24 : Am.Spec := { sig := sig24, pre := fun ⟨x0, _⟩ => P24 x0, res := fun ⟨x0, _⟩ => [⟨Ty.bool, g24_0 x0⟩] }
theorem con24 : Contract Try.prog 24 S24 := contract_of Try.func24 hb24 (Nat.le_of_ble_eq_true (by kernel_rfl)) (fun ⟨x0, _⟩ h hwf w0 O q =>
  (snd24 _).1 x0 _ (top24 x0 hwf.1.1) w0 O q)

end Go.Proofs.Ytakodkjcmacofaa

/- Function 25 (slices.Clone[[]impl.Block,impl.Block]): its contract, off what is known of the library. -/
set_option linter.unusedVariables false
set_option linter.unusedSimpArgs false
set_option maxRecDepth 100000
namespace Go.Proofs.Ytakodkjcmacofaa
open Go Go.Am Go.Proofs

set_option maxHeartbeats 2000000 in
theorem nil25 (w : World) : Calls Try.prog 25 #[.slice none 0 0] w fun e w' => e = .returned (.slice none 0 0) ∧ w' = w := by
  have mixed := mixed
  have q22 : ∀ (w : World) (a : Option Addr) (n c n' c' : Nat), (binOp .eql 24 (.slice a n c) (.slice none n' c')).run Try.prog w = .ok (.bool a.isNone) w := fun w a n c n' c' => Lib.run_eql_slice_nil w _ _ a n c n' c' Try.underlying24
  go_enter Try.func25, Try.ntmps25
  go_wp2
  go_ret
  exact ⟨rfl, rfl⟩

set_option maxHeartbeats 4000000 in
theorem some25 (w : World) (a : Addr) (n c : Nat) (news : List Value) (hl : news.length = n * (Ty.size (Ty.cons Ty.str (Ty.cons Ty.str (Ty.cons Ty.str Ty.unit))))) (hn : n ≤ 1048576) (hc : ∀ (j : Nat) (u : Value), news[j]? = some u → w.cell? (a.add j) = some u) (h1 : ∀ u ∈ news, u.oneCell' = true) :
    Calls Try.prog 25 #[.slice (some a) n c] w fun r w' => ∃ v', r = .returned v' ∧ w'.ownsRow w.heap.size 35 (Ty.size (Ty.cons Ty.str (Ty.cons Ty.str (Ty.cons Ty.str Ty.unit)))) v' n news ∧ Go.RowKit.Below w.heap.size w w' := by
  have mixed := mixed
  have q22 : ∀ (w : World) (a : Option Addr) (n c n' c' : Nat), (binOp .eql 24 (.slice a n c) (.slice none n' c')).run Try.prog w = .ok (.bool a.isNone) w := fun w a n c n' c' => Lib.run_eql_slice_nil w _ _ a n c n' c' Try.underlying24
  have hinfo : TIOk Try.prog 24 (tabGet tab 24) := tabOk 24
  obtain ⟨_, _, ⟨_, ⟨i0, hi0, hz1, z, hz0, hzs, _⟩⟩, hby⟩ := hinfo
  rw [hi0] at hby
  simp only [Option.map_some, Option.some.injEq] at hby
  have hzs' : z.cells.size = Ty.size (Ty.cons Ty.str (Ty.cons Ty.str (Ty.cons Ty.str Ty.unit))) := by rw [← Array.length_toList, hzs]; rfl
  have A : Aside (∀ (j : Nat) (u : Value), news[j]? = some u → w.cell? (a.add j) = some u) := hc
  clear hc
  go_enter Try.func25, Try.ntmps25
  go_wp2_with (at_builtin; refine wpList_append_own _ rfl _ _ 24 rfl w.heap.size 35 i0 z (Ty.size (Ty.cons Ty.str (Ty.cons Ty.str (Ty.cons Ty.str Ty.unit)))) i0.bytes Try.underlying24 hi0 hz0 hz1 rfl hzs' (by decide) _ _ _ rfl (World.ownsRow_made w #[] 0 (Nat.le_refl _) (Nat.zero_le _) (by simp)) a n c news rfl ?qc1 ?qc2 ?qc3 ?qc4 ?qc5 ?qc6 ?_)
  case qc1 => exact hl
  case qc2 => intro j u hj; exact Lib.cell?_alloc_some _ (A.out j u hj)
  case qc3 => exact h1
  case qc4 => unfold maxLen; omega
  case qc5 => rw [hby]; omega
  case qc6 => simp
  intro v' w1 hown hgrow hnil
  go_wp2
  go_ret
  exact ⟨v', rfl, by simpa using hown, ((Go.RowKit.Below.refl _ w).alloc (Nat.le_refl _) _).grown hgrow (by simp) (by intro k hk; simp [Value.ownBlock] at hk; omega)⟩

def sig25 : List AT := [AT.v (Ty.sl (Ty.cons Ty.str (Ty.cons Ty.str (Ty.cons Ty.str Ty.unit))))]
def g25_0 (x0 : List (ByteArray × ByteArray × ByteArray × Unit)) : List (ByteArray × ByteArray × ByteArray × Unit) := x0
def P25 (x0 : List (ByteArray × ByteArray × ByteArray × Unit)) : Prop := x0.length ≤ 1048576
def S25 : Am.Spec := { sig := sig25, pre := fun ⟨x0, _⟩ => P25 x0, res := fun ⟨x0, _⟩ => [⟨Ty.sl (Ty.cons Ty.str (Ty.cons Ty.str (Ty.cons Ty.str Ty.unit))), g25_0 x0⟩] }
theorem con25 : Contract Try.prog 25 S25 := clone_contract (t := (Ty.cons Ty.str (Ty.cons Ty.str (Ty.cons Ty.str Ty.unit)))) (e := 35) rfl nil25 some25

end Go.Proofs.Ytakodkjcmacofaa

/- Function 44 (slices.BinarySearchFunc[[]impl.Block,impl.Block,impl.Block]): its runs between cut points. Written by a program of this repo (gen). -/
set_option linter.unusedVariables false
set_option linter.unusedSimpArgs false
set_option maxRecDepth 100000
namespace Go.Proofs.Ytakodkjcmacofaa
open Go Go.Am Go.Proofs
def ext44c37 : Ext := [(37, S37)]
theorem call44c37_37 : Callable Try.prog 37 := ⟨Try.f37, Try.func37, by kernel_rfl, by kernel_rfl⟩
theorem ext44c37Ok : ExtOk Try.prog ext44c37 := ⟨⟨call44c37_37, con37⟩, trivial⟩
/-! Function 44c37. -/
noncomputable def b44c37 : Code := bodyOf Try.f44
theorem hb44c37 : Try.f44.body = some b44c37 := by kernel_rfl
def sig44c37 : List AT := [AT.v (Ty.sl (Ty.cons Ty.str (Ty.cons Ty.str (Ty.cons Ty.str Ty.unit)))), AT.v (Ty.cons Ty.str (Ty.cons Ty.str (Ty.cons Ty.str Ty.unit))), AT.fn 37 []]
def tys44c37 : List Ty := [Ty.int IntKind.i64, Ty.bool]
def E44c37_3 (v9 : Int) (v10 : Int) (x0 : List (ByteArray × ByteArray × ByteArray × Unit)) (x1 : ByteArray × ByteArray × ByteArray × Unit) : Env := [(0, PV.a (Atom.sl (Ty.cons Ty.str (Ty.cons Ty.str (Ty.cons Ty.str Ty.unit))) x0)), (2, PV.fn 37 []), (4, PV.a (Atom.optr 0 0 [])), (8, PV.a (Atom.val (Value.int IntKind.i64 (↑(List.length x0) : Int)))), (9, PV.a (Atom.val (Value.int IntKind.i64 v9))), (10, PV.a (Atom.val (Value.int IntKind.i64 v10)))]
def L44c37_3 (v9 : Int) (v10 : Int) (x0 : List (ByteArray × ByteArray × ByteArray × Unit)) (x1 : ByteArray × ByteArray × ByteArray × Unit) : Heap := [Option.some (Arr.mk (Ty.cons Ty.str (Ty.cons Ty.str (Ty.cons Ty.str Ty.unit))) [x1] Bool.true)]
mutual
def R44c37 : Nat → List (ByteArray × ByteArray × ByteArray × Unit) → ByteArray × ByteArray × ByteArray × Unit → List Dyn → Prop
  | 0, _, _, _ => False
  | n + 1, x0, x1, ds => (R44c37_3 n (0) ((↑(List.length x0) : Int)) (x0) (x1) ds)
def R44c37_3 : Nat → Int → Int → List (ByteArray × ByteArray × ByteArray × Unit) → ByteArray × ByteArray × ByteArray × Unit → List Dyn → Prop
  | 0, _, _, _, _, _ => False
  | n + 1, v9, v10, x0, x1, ds => (if (Decidable.decide (v9 < v10)) = true then ((InR IntKind.i64 (v9 + v10)) ∧ ((InR IntKind.u64 (v9 + v10)) ∧ ((InR IntKind.u64 (Int.fdiv (v9 + v10) 2)) ∧ ((InR IntKind.i64 (Int.fdiv (v9 + v10) 2)) ∧ ((0 ≤ Int.fdiv (v9 + v10) 2) ∧ (Int.fdiv (v9 + v10) 2 < (↑(List.length x0) : Int)) ∧ (if (Decidable.decide (g37_0 (List.getD x0 (Int.toNat (Int.fdiv (v9 + v10) 2)) (ByteArray.empty, ByteArray.empty, ByteArray.empty, ())) x1 < 0)) = true then ((InR IntKind.i64 (Int.fdiv (v9 + v10) 2 + 1)) ∧ (R44c37_3 n (Int.fdiv (v9 + v10) 2 + 1) (v10) (x0) (x1) ds)) else (R44c37_3 n (v9) (Int.fdiv (v9 + v10) 2) (x0) (x1) ds))))))) else (if (Decidable.decide (v9 < (↑(List.length x0) : Int))) = true then ((0 ≤ v9) ∧ (v9 < (↑(List.length x0) : Int)) ∧ (ds = [Dyn.mk (Ty.int IntKind.i64) v9, Dyn.mk Ty.bool (g37_0 (List.getD x0 (Int.toNat v9) (ByteArray.empty, ByteArray.empty, ByteArray.empty, ())) x1 == 0)])) else (ds = [Dyn.mk (Ty.int IntKind.i64) v9, Dyn.mk Ty.bool Bool.false])))
end
theorem p44c37_0 (x0 : List (ByteArray × ByteArray × ByteArray × Unit)) (x1 : ByteArray × ByteArray × ByteArray × Unit) : Am.runN tab ext44c37 false 49 [] 2000 [] [] [0, 2, 4, 8, 9, 10] [0] [] [.code b44c37] (entE 0 0 sig44c37 (x0, x1, (), ())) (entL sig44c37 (x0, x1, (), ())) = some (cutAt b44c37 3, E44c37_3 (0) ((↑(List.length x0) : Int)) (x0) (x1), L44c37_3 (0) ((↑(List.length x0) : Int)) (x0) (x1), []) := by kernel_rfl
theorem p44c37_1 (v9 : Int) (v10 : Int) (x0 : List (ByteArray × ByteArray × ByteArray × Unit)) (x1 : ByteArray × ByteArray × ByteArray × Unit) : Am.runN tab ext44c37 false 49 [] 2000 [] [] [0, 2, 4, 8, 9, 10] [0] [true, true] (cutAt b44c37 3) (E44c37_3 v9 v10 x0 x1) (L44c37_3 v9 v10 x0 x1) = some (cutAt b44c37 3, E44c37_3 (Int.fdiv (v9 + v10) 2 + 1) (v10) (x0) (x1), L44c37_3 (Int.fdiv (v9 + v10) 2 + 1) (v10) (x0) (x1), [Decidable.decide (v9 < v10) = Bool.true, InR IntKind.i64 (v9 + v10), InR IntKind.u64 (v9 + v10), (0 : Int) ≤ (1 : Int), InR IntKind.u64 (Int.fdiv (v9 + v10) 2), InR IntKind.i64 (Int.fdiv (v9 + v10) 2), 0 ≤ Int.fdiv (v9 + v10) 2, Int.fdiv (v9 + v10) 2 < (↑(List.length x0) : Int), True, Decidable.decide (g37_0 (List.getD x0 (Int.toNat (Int.fdiv (v9 + v10) 2)) (ByteArray.empty, ByteArray.empty, ByteArray.empty, ())) x1 < 0) = Bool.true, InR IntKind.i64 (Int.fdiv (v9 + v10) 2 + 1)]) := by kernel_rfl
theorem p44c37_2 (v9 : Int) (v10 : Int) (x0 : List (ByteArray × ByteArray × ByteArray × Unit)) (x1 : ByteArray × ByteArray × ByteArray × Unit) : Am.runN tab ext44c37 false 49 [] 2000 [] [] [0, 2, 4, 8, 9, 10] [0] [true, false] (cutAt b44c37 3) (E44c37_3 v9 v10 x0 x1) (L44c37_3 v9 v10 x0 x1) = some (cutAt b44c37 3, E44c37_3 (v9) (Int.fdiv (v9 + v10) 2) (x0) (x1), L44c37_3 (v9) (Int.fdiv (v9 + v10) 2) (x0) (x1), [Decidable.decide (v9 < v10) = Bool.true, InR IntKind.i64 (v9 + v10), InR IntKind.u64 (v9 + v10), (0 : Int) ≤ (1 : Int), InR IntKind.u64 (Int.fdiv (v9 + v10) 2), InR IntKind.i64 (Int.fdiv (v9 + v10) 2), 0 ≤ Int.fdiv (v9 + v10) 2, Int.fdiv (v9 + v10) 2 < (↑(List.length x0) : Int), True, Decidable.decide (g37_0 (List.getD x0 (Int.toNat (Int.fdiv (v9 + v10) 2)) (ByteArray.empty, ByteArray.empty, ByteArray.empty, ())) x1 < 0) = Bool.false]) := by kernel_rfl
theorem p44c37_3 (v9 : Int) (v10 : Int) (x0 : List (ByteArray × ByteArray × ByteArray × Unit)) (x1 : ByteArray × ByteArray × ByteArray × Unit) : runF tab ext44c37 false 49 [] 2000 [] tys44c37 Try.f44.results [false, true] (cutAt b44c37 3) (E44c37_3 v9 v10 x0 x1) (L44c37_3 v9 v10 x0 x1) = some ([Dyn.mk (Ty.int IntKind.i64) v9, Dyn.mk Ty.bool (g37_0 (List.getD x0 (Int.toNat v9) (ByteArray.empty, ByteArray.empty, ByteArray.empty, ())) x1 == 0)], [], [Decidable.decide (v9 < v10) = Bool.false, Decidable.decide (v9 < (↑(List.length x0) : Int)) = Bool.true, 0 ≤ v9, v9 < (↑(List.length x0) : Int), True]) := by kernel_rfl
theorem p44c37_4 (v9 : Int) (v10 : Int) (x0 : List (ByteArray × ByteArray × ByteArray × Unit)) (x1 : ByteArray × ByteArray × ByteArray × Unit) : runF tab ext44c37 false 49 [] 2000 [] tys44c37 Try.f44.results [false, false] (cutAt b44c37 3) (E44c37_3 v9 v10 x0 x1) (L44c37_3 v9 v10 x0 x1) = some ([Dyn.mk (Ty.int IntKind.i64) v9, Dyn.mk Ty.bool Bool.false], [], [Decidable.decide (v9 < v10) = Bool.false, Decidable.decide (v9 < (↑(List.length x0) : Int)) = Bool.false]) := by kernel_rfl
theorem snd44c37 : ∀ n, (∀ (x0 : List (ByteArray × ByteArray × ByteArray × Unit)) (x1 : ByteArray × ByteArray × ByteArray × Unit) ds, R44c37 n x0 x1 ds → ∀ w0 O q, AtV Try.prog 44 (PostR ds [] [] q w0 O) 49 w0 O q [] [.code b44c37] (entE 0 0 sig44c37 (x0, x1, (), ())) (entL sig44c37 (x0, x1, (), ()))) ∧ (∀ (v9 : Int) (v10 : Int) (x0 : List (ByteArray × ByteArray × ByteArray × Unit)) (x1 : ByteArray × ByteArray × ByteArray × Unit) ds, R44c37_3 n v9 v10 x0 x1 ds → ∀ w0 O q, AtV Try.prog 44 (PostR ds [] [] q w0 O) 49 w0 O q [] (cutAt b44c37 3) (E44c37_3 v9 v10 x0 x1) (L44c37_3 v9 v10 x0 x1)) := by
  intro n
  induction n with
  | zero => exact ⟨fun _ _ _ h => by simp only [R44c37] at h, fun _ _ _ _ _ h => by simp only [R44c37_3] at h⟩
  | succ n ih =>
  obtain ⟨ih, ih3⟩ := ih
  refine ⟨?_, ?_⟩
  · intro x0 x1 ds h w0 O q
    rw [R44c37] at h
    exact AtV.runN tabOk ext44c37Ok mixed (p44c37_0 x0 x1) trivial (ih3 _ _ _ _ _ h w0 O q)

  · intro v9 v10 x0 x1 ds h w0 O q
    rw [R44c37_3] at h
    by_cases b0 : (Decidable.decide (v9 < v10)) = true
    · rw [if_pos b0] at h
      obtain ⟨s0, h⟩ := h
      obtain ⟨s1, h⟩ := h
      obtain ⟨s2, h⟩ := h
      obtain ⟨s3, h⟩ := h
      obtain ⟨s4, s5, h⟩ := h
      by_cases b1 : (Decidable.decide (g37_0 (List.getD x0 (Int.toNat (Int.fdiv (v9 + v10) 2)) (ByteArray.empty, ByteArray.empty, ByteArray.empty, ())) x1 < 0)) = true
      · rw [if_pos b1] at h
        obtain ⟨s6, h⟩ := h
        exact AtV.runN tabOk ext44c37Ok mixed (p44c37_1 v9 v10 x0 x1) ⟨b0, s0, s1, (by decide), s2, s3, s4, s5, trivial, b1, s6, trivial⟩ (ih3 _ _ _ _ _ h w0 O q)
      · rw [if_neg b1] at h
        replace b1 := Bool.eq_false_iff.2 b1
        exact AtV.runN tabOk ext44c37Ok mixed (p44c37_2 v9 v10 x0 x1) ⟨b0, s0, s1, (by decide), s2, s3, s4, s5, trivial, b1, trivial⟩ (ih3 _ _ _ _ _ h w0 O q)
    · rw [if_neg b0] at h
      replace b0 := Bool.eq_false_iff.2 b0
      by_cases b1 : (Decidable.decide (v9 < (↑(List.length x0) : Int))) = true
      · rw [if_pos b1] at h
        obtain ⟨s0, s1, h⟩ := h
        subst h
        exact AtV.fin Try.func44 tabOk ext44c37Ok mixed (p44c37_3 v9 v10 x0 x1) ⟨b0, b1, s0, s1, trivial, trivial⟩
      · rw [if_neg b1] at h
        replace b1 := Bool.eq_false_iff.2 b1
        subst h
        exact AtV.fin Try.func44 tabOk ext44c37Ok mixed (p44c37_4 v9 v10 x0 x1) ⟨b0, b1, trivial⟩



def p44c37 (x0 : List (ByteArray × ByteArray × ByteArray × Unit)) (x1 : ByteArray × ByteArray × ByteArray × Unit) (h : Nat) : Bool := decide (g37_0 (x0.getD h (ByteArray.empty, ByteArray.empty, ByteArray.empty, ())) x1 < 0)
/-- Where the search comes to. -/
def k44c37 (x0 : List (ByteArray × ByteArray × ByteArray × Unit)) (x1 : ByteArray × ByteArray × ByteArray × Unit) : Nat := bsearch (p44c37 x0 x1) (x0.length + 1) 0 x0.length
def f44c37 (x0 : List (ByteArray × ByteArray × ByteArray × Unit)) (x1 : ByteArray × ByteArray × ByteArray × Unit) (k : Nat) : Bool := if k < x0.length then g37_0 (x0.getD k (ByteArray.empty, ByteArray.empty, ByteArray.empty, ())) x1 == 0 else false
def g44c37_0 (x0 : List (ByteArray × ByteArray × ByteArray × Unit)) (x1 : ByteArray × ByteArray × ByteArray × Unit) : Int := (k44c37 x0 x1 : Nat)
def g44c37_1 (x0 : List (ByteArray × ByteArray × ByteArray × Unit)) (x1 : ByteArray × ByteArray × ByteArray × Unit) : Bool := f44c37 x0 x1 (k44c37 x0 x1)
def P44c37 (x0 : List (ByteArray × ByteArray × ByteArray × Unit)) (x1 : ByteArray × ByteArray × ByteArray × Unit) : Prop := x0.length ≤ 4611686018427387903

theorem u64_iff (n : Int) : InR .u64 n ↔ 0 ≤ n ∧ n ≤ 18446744073709551615 := by
  have e1 : (IntKind.u64).min = 0 := by decide
  have e2 : (IntKind.u64).max = 18446744073709551615 := by decide
  simp only [InR, e1, e2]

theorem run44c37 (x0 : List (ByteArray × ByteArray × ByteArray × Unit)) (x1 : ByteArray × ByteArray × ByteArray × Unit) (hm : x0.length ≤ 4611686018427387903) : ∀ (k i j : Nat), j - i < k → i ≤ j → j ≤ x0.length →
    R44c37_3 k (i : Int) (j : Int) x0 x1 [⟨.int .i64, ((bsearch (p44c37 x0 x1) k i j : Nat) : Int)⟩, ⟨.bool, f44c37 x0 x1 (bsearch (p44c37 x0 x1) k i j)⟩] := by
  intro k
  induction k with
  | zero => intro i j h; omega
  | succ k ih =>
    intro i j h hij hj
    rw [R44c37_3]
    by_cases hlt : i < j
    · rw [if_pos (by simpa using hlt)]
      have e : Int.fdiv ((i : Int) + (j : Int)) 2 = (((i + j) / 2 : Nat) : Int) := by
        rw [Int.fdiv_eq_ediv_of_nonneg _ (by omega)]
        omega
      rw [e]
      simp only [Int.toNat_natCast, i64_iff, u64_iff]
      refine ⟨by omega, by omega, by omega, by omega, by omega, by omega, ?_⟩
      simp only [bsearch, if_pos hlt]
      by_cases hp : p44c37 x0 x1 ((i + j) / 2) = true
      · rw [if_pos hp, if_pos (by exact hp)]
        refine ⟨by omega, ?_⟩
        exact ih ((i + j) / 2 + 1) j (by omega) (by omega) hj
      · rw [if_neg hp, if_neg (by exact hp)]
        exact ih i ((i + j) / 2) (by omega) (by omega) (by omega)
    · rw [if_neg (by simpa using hlt)]
      simp only [bsearch, if_neg hlt, f44c37]
      by_cases hl : i < x0.length
      · rw [if_pos (by simpa using hl)]
        refine ⟨by omega, by omega, ?_⟩
        simp [hl]
      · rw [if_neg (by simpa using hl)]
        simp [hl]

def S44c37 : Am.Spec := { sig := sig44c37, pre := fun ⟨x0, x1, _⟩ => P44c37 x0 x1, res := fun ⟨x0, x1, _⟩ => [⟨Ty.int .i64, g44c37_0 x0 x1⟩, ⟨Ty.bool, g44c37_1 x0 x1⟩] }
theorem con44c37 : Contract Try.prog 44 S44c37 := contract_of Try.func44 hb44c37 (Nat.le_of_ble_eq_true (by kernel_rfl)) (fun ⟨x0, x1, _⟩ h hwf w0 O q =>
  (snd44c37 (x0.length + 1 + 1)).1 x0 x1 _ (by rw [R44c37]; exact run44c37 x0 x1 h (x0.length + 1) 0 x0.length (by omega) (by omega) (Nat.le_refl _)) w0 O q)

end Go.Proofs.Ytakodkjcmacofaa

/- Function 32 (impl.blockAt): its runs between cut points. Written by a program of this repo (gen). -/
set_option linter.unusedVariables false
set_option linter.unusedSimpArgs false
set_option maxRecDepth 100000
namespace Go.Proofs.Ytakodkjcmacofaa
open Go Go.Am Go.Proofs
def ext32 : Ext := [(44, S44c37)]
theorem call32_44 : Callable Try.prog 44 := ⟨Try.f44, Try.func44, by kernel_rfl, by kernel_rfl⟩
theorem ext32Ok : ExtOk Try.prog ext32 := ⟨⟨call32_44, con44c37⟩, trivial⟩
/-! Function 32. -/
noncomputable def b32 : Code := bodyOf Try.f32
theorem hb32 : Try.f32.body = some b32 := by kernel_rfl
def sig32 : List AT := [AT.v (Ty.sl (Ty.cons Ty.str (Ty.cons Ty.str (Ty.cons Ty.str Ty.unit)))), AT.v (Ty.cons Ty.str (Ty.cons Ty.str (Ty.cons Ty.str Ty.unit)))]
def tys32 : List Ty := [Ty.int IntKind.i64, Ty.bool]
def P32 (x0 : List (ByteArray × ByteArray × ByteArray × Unit)) (x1 : ByteArray × ByteArray × ByteArray × Unit) : Prop := ((P44c37 x0 x1) ∧ True)
def g32_0 (x0 : List (ByteArray × ByteArray × ByteArray × Unit)) (x1 : ByteArray × ByteArray × ByteArray × Unit) : Int := g44c37_0 x0 x1
def g32_1 (x0 : List (ByteArray × ByteArray × ByteArray × Unit)) (x1 : ByteArray × ByteArray × ByteArray × Unit) : Bool := g44c37_1 x0 x1
theorem p32_0 (x0 : List (ByteArray × ByteArray × ByteArray × Unit)) (x1 : ByteArray × ByteArray × ByteArray × Unit) : runF tab ext32 false 11 [] 2000 [] tys32 Try.f32.results [] [.code b32] (entE 0 0 sig32 (x0, x1, ())) (entL sig32 (x0, x1, ())) = some ([Dyn.mk (Ty.int IntKind.i64) (g44c37_0 x0 x1), Dyn.mk Ty.bool (g44c37_1 x0 x1)], [], [P44c37 x0 x1]) := by kernel_rfl
theorem at32 (x0 : List (ByteArray × ByteArray × ByteArray × Unit)) (x1 : ByteArray × ByteArray × ByteArray × Unit) (h : P32 x0 x1) (w0 : World) (O : List Nat) (q : Nat → Value) : AtV Try.prog 32 (PostR [⟨Ty.int IntKind.i64, g32_0 x0 x1⟩, ⟨Ty.bool, g32_1 x0 x1⟩] [] [] q w0 O) 11 w0 O q [] [.code b32] (entE 0 0 sig32 (x0, x1, ())) (entL sig32 (x0, x1, ())) := by
  unfold P32 at h
  unfold g32_0 g32_1
  obtain ⟨s0, h⟩ := h
  exact AtV.fin Try.func32 tabOk ext32Ok mixed (p32_0 x0 x1) ⟨s0, trivial⟩

def S32 : Am.Spec := { sig := sig32, pre := fun ⟨x0, x1, _⟩ => P32 x0 x1, res := fun ⟨x0, x1, _⟩ => [⟨Ty.int IntKind.i64, g32_0 x0 x1⟩, ⟨Ty.bool, g32_1 x0 x1⟩] }
theorem con32 : Contract Try.prog 32 S32 := contract_of Try.func32 hb32 (Nat.le_of_ble_eq_true (by kernel_rfl)) (fun ⟨x0, x1, _⟩ h _ w0 O q => at32 x0 x1 h w0 O q)


end Go.Proofs.Ytakodkjcmacofaa

/- Function 38 (slices.Insert[[]impl.Block,impl.Block]): its contract, off what is known of the library. -/
set_option linter.unusedVariables false
set_option linter.unusedSimpArgs false
set_option maxRecDepth 100000
namespace Go.Proofs.Ytakodkjcmacofaa
open Go Go.Am Go.Proofs

open Go.RowKit in
/-- 'copy(d, s)' for the walk, where its run is known. -/
theorem wpcp38 {P : Program} (w : World) {o : Oper} {a : Act} {K : Act → World → Prop} {Q : Exit → Act → World → Prop} (d s : Operand) (t t' : TypeId)
    (ho : o.op = .call { callee := .builtin .copy, args := #[d, s], argTypes := #[t, t'] }) (v u : Value) (hd : a.eval d = v) (hs : a.eval s = u) {v' : Value} {w' : World}
    (hr : (Builtin.copy_ #[t, t'] o.type #[v, u]).run P w = .ok v' w') (h : K (a.put o.dst v') w') : o.wp P a w K Q := by
  unfold Oper.wp execOp
  simp only [ho, resolve, invoke, builtin, Sem.run_bind, Sem.run_pure, Result.andThen_ok, List.map_toArray, List.map_cons, List.map_nil, hd, hs, hr]
  exact h

theorem lcp38 {P : Program} (w : World) {ops : Array Oper} {rest : List Oper} {o : Oper} {a : Act} {Q : Exit → Act → World → Prop} (hgd : o.guard = none) (d s : Operand) (t t' : TypeId)
    (ho : o.op = .call { callee := .builtin .copy, args := #[d, s], argTypes := #[t, t'] }) (v u : Value) (hd : a.eval d = v) (hs : a.eval s = u) {v' : Value} {w' : World}
    (hr : (Builtin.copy_ #[t, t'] o.type #[v, u]).run P w = .ok v' w') (h : wpList P ops Q rest (a.put o.dst v') w') : wpList P ops Q (o :: rest) a w :=
  wpList_plain hgd fun _ hK => wpcp38 w d s t t' ho v u hd hs hr (hK _ _ h)

theorem scp38 {P : Program} {ops : Array Oper} {o : Oper} {a : Act} {w : World} {K : Act → World → Prop} {Q : Exit → Act → World → Prop} {E : Prop}
    (hg : o.guard = none) (d x : Operand) (dT sT : TypeId) (hop : o.op = Op.call { callee := Callee.builtin Builtin.copy, args := #[d, x], argTypes := #[dT, sT] })
    (v u : Value) (hd : a.eval d = v) (hx : a.eval x = u) {v' : Value} {w' : World} (hr : (Builtin.copy_ #[dT, sT] o.type #[v, u]).run P w = .ok v' w') (hK : K (a.put o.dst v') w') :
    if Region.wanted o (yielded ops a.tmps) = true then Oper.wp P o a w K Q else E := by
  have hw : Region.wanted o (yielded ops a.tmps) = true := by simp [Region.wanted, hg]
  rw [if_pos hw]
  unfold Oper.wp
  simp [execOp, hop, resolve, invoke, builtin, hd, hx, hr, Result.andThen]
  exact hK

theorem frozen_end38 {w : World} {ys : List (ByteArray × ByteArray × ByteArray × Unit)} {b off cap : Nat} {cur : Array Value} {ty : TypeId} {fz : Nat × Nat} (h : OwnAt w (Ty.cons Ty.str (Ty.cons Ty.str (Ty.cons Ty.str Ty.unit))) ys b off cap cur ty fz) : w.frozen? ⟨b, cur.size, none⟩ = false := by
  have h2 := (h.free.2.resolve_left (by decide)) cur.size (by omega)
  simp only [World.frozen?, h.blk]
  rw [Bool.eq_false_iff]
  intro hh
  simp only [Bool.and_eq_true, decide_eq_true_eq] at hh
  exact h2 hh

theorem info38 : ∃ (i0 : TypeInfo) (z : Value), Try.prog.info? 35 = some i0 ∧ i0.size = 3 ∧ i0.zero = some z ∧ z.cells = (dcells (Ty.cons Ty.str (Ty.cons Ty.str (Ty.cons Ty.str Ty.unit)))).toArray ∧ (Try.prog.info? 35).map (·.size) = some 3 ∧ ∃ by', i0.bytes = by' ∧ by' ≤ 256 ∧ i0.bytes * 1048577 ≤ 140737488355328 := by
  have hinfo : TIOk Try.prog 24 (tabGet tab 24) := tabOk 24
  obtain ⟨_, _, ⟨_, ⟨i0, hi0, hz1, z, hz0, hzs, hzv⟩⟩, hby⟩ := hinfo
  rw [hi0] at hby
  simp only [Option.map_some, Option.some.injEq] at hby
  refine ⟨i0, z, hi0, hz1, hz0, Array.toList_inj.1 (by rw [hzs]), by rw [hi0]; exact congrArg some hz1, _, rfl, ?_, ?_⟩
  · rw [hby]; decide
  · rw [hby]; decide

open Go.RowKit in
set_option maxHeartbeats 8000000 in
theorem end38 (w : World) (xs ys : List (ByteArray × ByteArray × ByteArray × Unit)) (b off cap : Nat) (cur : Array Value) (ty : TypeId) (fz : Nat × Nat) (vb voff vcap : Nat) (vcur : Array Value) (vty : TypeId) (vfz : Nat × Nat) (hA : OwnAt w (Ty.cons Ty.str (Ty.cons Ty.str (Ty.cons Ty.str Ty.unit))) xs b off cap cur ty fz) (hB : OwnAt w (Ty.cons Ty.str (Ty.cons Ty.str (Ty.cons Ty.str Ty.unit))) ys vb voff vcap vcur vty vfz) (h1 : ys.length = 1) (hvb : vb ≠ b) (hroom : xs.length + 1 ≤ cap) :
      Calls Try.prog 38 #[.slice (some ⟨b, off, none⟩) xs.length cap, .int .i64 xs.length, .slice (some ⟨vb, voff, none⟩) 1 vcap] w fun r w' => r = .returned (.slice (some ⟨b, off, none⟩) (xs.length + 1) cap) ∧
        ∃ q, w' = (w.drewN q).setCells b (off + xs.length * Ty.size (Ty.cons Ty.str (Ty.cons Ty.str (Ty.cons Ty.str Ty.unit)))) (fcs (Ty.cons Ty.str (Ty.cons Ty.str (Ty.cons Ty.str Ty.unit))) ys) := by
  have mixed := mixed
  obtain ⟨i0, z, hi0, hz1, hz0, hzc, hzm, _⟩ := info38
  have hlen := hA.len
  have hcapm := hA.capm
  have hvl : (fcs (Ty.cons Ty.str (Ty.cons Ty.str (Ty.cons Ty.str Ty.unit))) ys).length = 1 * 3 := by
    have := fcs_length (t := (Ty.cons Ty.str (Ty.cons Ty.str (Ty.cons Ty.str Ty.unit)))) rfl (xs := ys) hB.wf
    rw [this, h1]; rfl
  obtain ⟨vs, hvs⟩ : ∃ vs, vs = fcs (Ty.cons Ty.str (Ty.cons Ty.str (Ty.cons Ty.str Ty.unit))) ys := ⟨_, rfl⟩
  have hvc : ∀ (j : Nat) (u : Value), vs[j]? = some u → w.cell? ⟨vb, voff + j, none⟩ = some u := fun j u hj => hB.cell j u (by rw [← hvs]; exact hj)
  rw [← hvs] at hvl ⊢
  have hle : (xs.length + 1) * 3 ≤ cap * 3 := Nat.mul_le_mul_right _ hroom
  have s2 : ∀ u ∈ vs, u.oneCell' = true := by rw [hvs]; exact fcells_ones rfl _
  have hsrc : Src Try.prog i0.size 24 (.slice (some ⟨vb, voff, none⟩) 1 vcap) 1 vs w := by
    rw [hz1]
    exact Src.ofSlice w Try.underlying24 ⟨vb, voff, none⟩ 1 vcap vs hvl (fun j u hj => by rw [Addr.add_lit]; exact hvc j u hj) s2
  have A0 : ∀ k, k < cap * 3 → (w.cell? ⟨b, off + k, none⟩).isSome = true ∧ w.frozen? ⟨b, off + k, none⟩ = false := fun k hk => ⟨hA.some' k hk, hA.unfrozen k hk⟩
  have r1 : ∀ j, j < vs.length → (w.cell? ⟨b, off + xs.length * i0.size + j, none⟩).isSome = true := fun j hj => by rw [hz1, Nat.add_assoc]; exact (A0 _ (by omega)).1
  have r2 : ∀ j, j < vs.length → w.frozen? ⟨b, off + xs.length * i0.size + j, none⟩ = false := fun j hj => by rw [hz1, Nat.add_assoc]; exact (A0 _ (by omega)).2
  have R1 : Aside (∀ j, j < vs.length → (w.cell? ⟨b, off + xs.length * i0.size + j, none⟩).isSome = true) := r1
  have R2 : Aside (∀ j, j < vs.length → w.frozen? ⟨b, off + xs.length * i0.size + j, none⟩ = false) := r2
  have N : Aside (i0.size = 3) := hz1
  clear r1 r2 A0 s2 hvc hvs hzc hz0 hzm hA hB
  go_enter Try.func38, Try.ntmps38
  go_wp2_with (at_builtin; refine wpList_append_room_src _ rfl _ _ 24 24 rfl 35 i0 Try.underlying24 hi0 b off xs.length cap rfl _ rfl 1 vs hsrc hroom R1.out R2.out ?_)
  go_ret
  exact ⟨rfl, 0, rfl⟩

open Go.RowKit in
set_option maxHeartbeats 8000000 in
theorem last38 (w : World) (xs ys : List (ByteArray × ByteArray × ByteArray × Unit)) (ad : Option Addr) (cap : Nat) (vb voff vcap : Nat) (vcur : Array Value) (vty : TypeId) (vfz : Nat × Nat) (hw : ∀ x ∈ xs, Wf (Ty.cons Ty.str (Ty.cons Ty.str (Ty.cons Ty.str Ty.unit))) x) (hlen : xs.length ≤ cap) (hnil : ad = none → xs = []) (hcs : ∀ a, ad = some a → ∀ (j : Nat) (u : Value), (fcs (Ty.cons Ty.str (Ty.cons Ty.str (Ty.cons Ty.str Ty.unit))) xs)[j]? = some u → w.cell? (a.add j) = some u) (hB : OwnAt w (Ty.cons Ty.str (Ty.cons Ty.str (Ty.cons Ty.str Ty.unit))) ys vb voff vcap vcur vty vfz) (h1 : ys.length = 1) (hroom : cap < xs.length + 1) (hmax : xs.length ≤ 1048576) :
      Calls Try.prog 38 #[.slice ad xs.length cap, .int .i64 xs.length, .slice (some ⟨vb, voff, none⟩) 1 vcap] w fun r w' => ∃ v', r = .returned v' ∧ w'.ownsRow w.heap.size 35 (Ty.size (Ty.cons Ty.str (Ty.cons Ty.str (Ty.cons Ty.str Ty.unit)))) v' (xs.length + 1) (fcs (Ty.cons Ty.str (Ty.cons Ty.str (Ty.cons Ty.str Ty.unit))) (xs ++ ys)) ∧ Below w.heap.size w w' := by
  have mixed := mixed
  obtain ⟨i0, z, hi0, hz1, hz0, hzc, hzm, by', hb1, hb2, hb3⟩ := info38
  have hvl : (fcs (Ty.cons Ty.str (Ty.cons Ty.str (Ty.cons Ty.str Ty.unit))) ys).length = 1 * 3 := by
    have := fcs_length (t := (Ty.cons Ty.str (Ty.cons Ty.str (Ty.cons Ty.str Ty.unit)))) rfl (xs := ys) hB.wf
    rw [this, h1]; rfl
  have hcl : (fcs (Ty.cons Ty.str (Ty.cons Ty.str (Ty.cons Ty.str Ty.unit))) xs).length = xs.length * 3 := fcs_length (t := (Ty.cons Ty.str (Ty.cons Ty.str (Ty.cons Ty.str Ty.unit)))) rfl hw
  obtain ⟨vs, hvs⟩ : ∃ vs, vs = fcs (Ty.cons Ty.str (Ty.cons Ty.str (Ty.cons Ty.str Ty.unit))) ys := ⟨_, rfl⟩
  obtain ⟨cs, hcss⟩ : ∃ cs, cs = fcs (Ty.cons Ty.str (Ty.cons Ty.str (Ty.cons Ty.str Ty.unit))) xs := ⟨_, rfl⟩
  have hvc : ∀ (j : Nat) (u : Value), vs[j]? = some u → w.cell? ⟨vb, voff + j, none⟩ = some u := fun j u hj => hB.cell j u (by rw [← hvs]; exact hj)
  rw [fcs_append, ← hvs, ← hcss]
  rw [← hvs] at hvl
  rw [← hcss] at hcl hcs
  have s2 : ∀ u ∈ vs, u.oneCell' = true := by rw [hvs]; exact fcells_ones rfl _
  have hsrc : Src Try.prog i0.size 24 (.slice (some ⟨vb, voff, none⟩) 1 vcap) 1 vs w := by
    rw [hz1]
    exact Src.ofSlice w Try.underlying24 ⟨vb, voff, none⟩ 1 vcap vs hvl (fun j u hj => by rw [Addr.add_lit]; exact hvc j u hj) s2
  have hold : (Builtin.firstCells i0.size xs.length (.slice ad xs.length cap)).run Try.prog w.drew = .ok cs.toArray w.drew := by
    rw [hz1]
    cases ad with
    | none =>
      have h0 := hnil rfl
      subst h0
      rw [List.length_eq_zero_iff.1 (show cs.length = 0 by rw [hcl]; simp)]
      exact run_firstCells_none w.drew 3 0 0 cap
    | some a => exact run_firstCells_some w.drew 3 xs.length a xs.length cap cs hcl (fun j v hj => hcs a rfl j v hj)
  have hbig : (xs.length + 1) * i0.bytes ≤ 140737488355328 := by
    have : (xs.length + 1) * i0.bytes ≤ 1048577 * i0.bytes := Nat.mul_le_mul_right _ (by omega)
    rw [Nat.mul_comm 1048577] at this
    omega
  have hrun : ∀ ty, (Builtin.append_ #[24, 24] ty #[.slice ad xs.length cap, .slice (some ⟨vb, voff, none⟩) 1 vcap]).run Try.prog w = _ := fun ty =>
    run_append_grow_src w 24 24 ty 35 i0 z Try.underlying24 hi0 hz0 ad xs.length cap cs hold _ 1 vs hsrc hroom (by omega) (growslice_fits hroom hbig)
  have hge := grownCap_ge w (xs.length + 1) cap 35
  have hgm := grownCap_le_maxLen w (xs.length + 1) cap 35 (by unfold maxLen; omega)
  have fin : ∀ G, xs.length + 1 ≤ G → G ≤ maxLen → (w.drew.alloc (.cells ((cs ++ vs).toArray ++ Builtin.zeroCells z.cells (G - (xs.length + 1))) 35)).ownsRow w.heap.size 35 (Ty.size (Ty.cons Ty.str (Ty.cons Ty.str (Ty.cons Ty.str Ty.unit)))) (.slice (some ⟨w.heap.size, 0, none⟩) (xs.length + 1) G) (xs.length + 1) (cs ++ vs) ∧ Below w.heap.size w (w.drew.alloc (.cells ((cs ++ vs).toArray ++ Builtin.zeroCells z.cells (G - (xs.length + 1))) 35)) := fun G g1 g2 => by
    have el : (cs ++ vs).length = (xs.length + 1) * 3 := by rw [List.length_append, hcl, hvl, Nat.add_mul]
    refine ⟨⟨el, .inr ⟨w.heap.size, G, _, rfl, Nat.le_refl _, heap_alloc_new w.drew _, g1, g2, ?_, ?_⟩⟩, ((Below.refl w.heap.size w).drew).alloc (Nat.le_refl _) _⟩
    · have hz : (Builtin.zeroCells z.cells (G - (xs.length + 1))).size = (G - (xs.length + 1)) * 3 := by
        rw [← Array.length_toList, hzc, zeroCells_k]; simp [dcells]
      rw [Array.size_append, List.size_toArray, el, hz]
      show _ = G * 3
      rw [← Nat.add_mul]; congr 1; omega
    · rw [Array.toList_append]
      have : ((cs ++ vs).toArray.toList ++ (Builtin.zeroCells z.cells (G - (xs.length + 1))).toList).take ((cs ++ vs).length) = cs ++ vs := List.take_left
      rw [el] at this
      exact this
  obtain ⟨G, hG⟩ : ∃ G, G = grownCap w (xs.length + 1) cap 35 := ⟨_, rfl⟩
  rw [← hG] at hrun hge hgm
  have fin := fin G hge hgm
  have F : Aside (_ ∧ _) := fin
  obtain ⟨ROW, hROW⟩ : ∃ ROW, ROW = (cs ++ vs).toArray ++ Builtin.zeroCells z.cells (G - (xs.length + 1)) := ⟨_, rfl⟩
  rw [← hROW] at hrun F
  clear fin hold hROW hG hcs hsrc hvc hvs hcss s2 hz0 hzc hzm hB
  go_enter Try.func38, Try.ntmps38
  cases ad with
  | none =>
    have h0 := hnil rfl
    subst h0
    go_wp2_with (at_builtin; refine Lib.wpList_append_run _ rfl _ _ _ _ rfl _ _ rfl rfl _ _ (hrun _) ?_)
    go_ret
    exact ⟨_, rfl, F.out.1, F.out.2⟩
  | some a =>
    obtain ⟨ab, ao, asp⟩ := a
    go_wp2_with (at_builtin; refine Lib.wpList_append_run _ rfl _ _ _ _ rfl _ _ rfl rfl _ _ (hrun _) ?_)
    all_goals (go_ret; exact ⟨_, rfl, F.out.1, F.out.2⟩)

open Go.RowKit in
set_option maxHeartbeats 8000000 in
theorem shift38 (w : World) (xs ys : List (ByteArray × ByteArray × ByteArray × Unit)) (b off cap : Nat) (cur : Array Value) (ty : TypeId) (fz : Nat × Nat) (vb voff vcap : Nat) (vcur : Array Value) (vty : TypeId) (vfz : Nat × Nat) (i : Nat) (hA : OwnAt w (Ty.cons Ty.str (Ty.cons Ty.str (Ty.cons Ty.str Ty.unit))) xs b off cap cur ty fz) (hB : OwnAt w (Ty.cons Ty.str (Ty.cons Ty.str (Ty.cons Ty.str Ty.unit))) ys vb voff vcap vcur vty vfz) (h1 : ys.length = 1) (hvb : vb ≠ b) (hi : i < xs.length) (hroom : xs.length + 1 ≤ cap) :
      Calls Try.prog 38 #[.slice (some ⟨b, off, none⟩) xs.length cap, .int .i64 i, .slice (some ⟨vb, voff, none⟩) 1 vcap] w fun r w' => r = .returned (.slice (some ⟨b, off, none⟩) (xs.length + 1) cap) ∧
        ∃ q, w' = ((w.drewN q).setCells b (off + (i + 1) * Ty.size (Ty.cons Ty.str (Ty.cons Ty.str (Ty.cons Ty.str Ty.unit)))) (fcs (Ty.cons Ty.str (Ty.cons Ty.str (Ty.cons Ty.str Ty.unit))) (xs.drop i))).setCells b (off + i * Ty.size (Ty.cons Ty.str (Ty.cons Ty.str (Ty.cons Ty.str Ty.unit)))) (fcs (Ty.cons Ty.str (Ty.cons Ty.str (Ty.cons Ty.str Ty.unit))) ys) := by
  have mixed := mixed
  obtain ⟨i0, z, hi0, hz1, hz0, hzc, hzm, _⟩ := info38
  have hlen := hA.len
  have hcapm := hA.capm
  have hvl : (fcs (Ty.cons Ty.str (Ty.cons Ty.str (Ty.cons Ty.str Ty.unit))) ys).length = 1 * 3 := by
    have := fcs_length (t := (Ty.cons Ty.str (Ty.cons Ty.str (Ty.cons Ty.str Ty.unit)))) rfl (xs := ys) hB.wf
    rw [this, h1]; rfl
  have hdl : (fcs (Ty.cons Ty.str (Ty.cons Ty.str (Ty.cons Ty.str Ty.unit))) (xs.drop i)).length = (xs.length - i) * 3 := by
    have := fcs_length (t := (Ty.cons Ty.str (Ty.cons Ty.str (Ty.cons Ty.str Ty.unit)))) rfl (xs := xs.drop i) (fun x hx => hA.wf x (List.mem_of_mem_drop hx))
    rw [this, List.length_drop]; rfl
  have hdc : ∀ (k : Nat) (u : Value), (fcs (Ty.cons Ty.str (Ty.cons Ty.str (Ty.cons Ty.str Ty.unit))) (xs.drop i))[k]? = some u → w.cell? ⟨b, off + i * 3 + k, none⟩ = some u := fun k u hk => by
    have := hA.cell _ _ (fcs_drop rfl hA.wf i (by omega) k u hk)
    rwa [Nat.add_assoc]
  obtain ⟨vs, hvs⟩ : ∃ vs, vs = fcs (Ty.cons Ty.str (Ty.cons Ty.str (Ty.cons Ty.str Ty.unit))) ys := ⟨_, rfl⟩
  obtain ⟨ds, hds⟩ : ∃ ds, ds = fcs (Ty.cons Ty.str (Ty.cons Ty.str (Ty.cons Ty.str Ty.unit))) (xs.drop i) := ⟨_, rfl⟩
  have hvc : ∀ (j : Nat) (u : Value), vs[j]? = some u → w.cell? ⟨vb, voff + j, none⟩ = some u := fun j u hj => hB.cell j u (by rw [← hvs]; exact hj)
  have s1 : ∀ u ∈ ds, u.oneCell' = true := by rw [hds]; exact fcells_ones rfl _
  have s2 : ∀ u ∈ vs, u.oneCell' = true := by rw [hvs]; exact fcells_ones rfl _
  rw [← hvs] at hvl ⊢
  rw [← hds] at hdl hdc ⊢
  have hle : (xs.length + 1) * 3 ≤ cap * 3 := Nat.mul_le_mul_right _ hroom
  have A0 : ∀ k, k < cap * 3 → (w.cell? ⟨b, off + k, none⟩).isSome = true ∧ w.frozen? ⟨b, off + k, none⟩ = false := fun k hk => ⟨hA.some' k hk, hA.unfrozen k hk⟩
  have hsb : w.shape? b = some (ty, cur.size) := by simp only [World.shape?, hA.blk]
  have hsa : w.shape? vb = some (vty, vcur.size) := by simp only [World.shape?, hB.blk]
  have hkB : cur.size ≠ 0 := by have := hA.fit; simp only [show Ty.size (Ty.cons Ty.str (Ty.cons Ty.str (Ty.cons Ty.str Ty.unit))) = 3 from rfl] at this; omega
  have hfa : w.frozen? ⟨vb, voff, none⟩ = false := by have := hB.unfrozen 0 (by have := hB.len; simp only [show Ty.size (Ty.cons Ty.str (Ty.cons Ty.str (Ty.cons Ty.str Ty.unit))) = 3 from rfl]; omega); exact this
  have hfe : w.frozen? ⟨vb, vcur.size, none⟩ = false := frozen_end38 hB
  have hov : ∀ lb cb, (callFunc 48 #[.slice (some ⟨vb, voff, none⟩) 1 vcap, .slice (some ⟨b, off + (i + 1) * 3, none⟩) lb cb]).run Try.prog w = .ok (.value (.bool false)) w := fun lb cb => by
    rw [run_callFunc_extern Try.func48 (by kernel_rfl) (by kernel_rfl) (by kernel_rfl) (e := Extern.SlicesOverlaps.overlaps #[24, 24] #[4]) (by kernel_rfl),
      Lib.run_overlaps_apart w 24 4 35 Try.underlying24 3 (fun w => by simp [Go.sizeOf, typeInfo, hi0, hz1]) ⟨vb, voff, none⟩ ⟨b, off + (i + 1) * 3, none⟩ 1 vcap lb cb hvb vty ty vcur.size cur.size hsa hsb hkB hfa hfe]
    rfl
  have e1 : (i + 1) * 3 + (xs.length - i) * 3 = xs.length * 3 + 3 := by rw [← Nat.add_mul, ← Nat.succ_mul]; congr 1; omega
  have e2 : (i + 1) * 3 = i * 3 + 3 := Nat.succ_mul _ _
  have hcp1 : ∀ ty dc sc, (Builtin.copy_ #[24, 24] ty #[.slice (some ⟨b, off + (i + 1) * 3, none⟩) (xs.length - i) dc, .slice (some ⟨b, off + i * 3, none⟩) (xs.length + 1 - i) sc]).run Try.prog w.drew = .ok (goInt (Nat.min (xs.length + 1 - i) (xs.length - i))) (w.drew.setCells b (off + (i + 1) * 3) ds) := fun ty dc sc =>
    run_copy_k w.drew _ _ ty 35 3 b (off + (i + 1) * 3) (xs.length - i) dc ⟨b, off + i * 3, none⟩ (xs.length + 1 - i) sc ds Try.underlying24 hzm (by rw [hdl]; congr 1; simp only [Nat.min_def]; split <;> omega)
      (fun j v hj => by rw [Addr.add_lit]; exact hdc j v hj)
      (fun j hj => by rw [Nat.add_assoc]; exact (A0 _ (by omega)).1) (fun j hj => by rw [Nat.add_assoc]; exact (A0 _ (by omega)).2) s1
  obtain ⟨W1, hW1⟩ : ∃ W1, W1 = w.drew.setCells b (off + (i + 1) * 3) ds := ⟨_, rfl⟩
  have hcp2 : ∀ (W : World), (∀ x, W.cell? x = W1.cell? x) → (∀ x, W.frozen? x = W1.frozen? x) → ∀ ty dc, (Builtin.copy_ #[24, 24] ty #[.slice (some ⟨b, off + i * 3, none⟩) (xs.length + 1 - i) dc, .slice (some ⟨vb, voff, none⟩) 1 vcap]).run Try.prog W = .ok (goInt (Nat.min 1 (xs.length + 1 - i))) (W.setCells b (off + i * 3) vs) := fun W hWc hWf ty dc =>
    run_copy_k W _ _ ty 35 3 b (off + i * 3) (xs.length + 1 - i) dc ⟨vb, voff, none⟩ 1 vcap vs Try.underlying24 hzm (by rw [hvl]; congr 1; simp only [Nat.min_def]; split <;> omega)
      (fun j v hj => by
        rw [Addr.add_lit, hWc, hW1, World.cell?_setCells_out b _ _ _ _ (fun h _ => absurd h hvb)]
        exact hvc j v hj)
      (fun j hj => by rw [hWc, hW1]; exact isSome_put _ _ _ _ _ (by rw [Nat.add_assoc]; exact (A0 _ (by omega)).1)) (fun j hj => by rw [hWf, hW1, World.frozen?_setCells, Nat.add_assoc]; exact (A0 _ (by omega)).2) s2
  have N : Aside (W1 = w.drew.setCells b (off + (i + 1) * 3) ds) := hW1
  rw [← hW1] at hcp1
  have hz2 : ¬ ((i : Int) = (xs.length : Int)) := by omega
  have hw1 : IntKind.i64.wrap ((i : Int) + 1) = (i : Int) + 1 := by unfold maxLen at hcapm; rw [IntKind.wrap_i64]; omega
  have hw2 : IntKind.i64.wrap ((xs.length : Int) + 1) = (xs.length : Int) + 1 := by unfold maxLen at hcapm; rw [IntKind.wrap_i64]; omega
  have hb1 : (0 : Int) ≤ (i : Int) + 1 := by omega
  have hin : i ≤ xs.length := by omega
  have htn : ((i : Int) + 1).toNat = i + 1 := by omega
  have htn2 : ((xs.length : Int) + 1).toNat = xs.length + 1 := by omega
  have hb2 : ¬ (cap = i + 1) := by omega
  have hb3 : (i : Int) ≤ (xs.length : Int) + 1 := by omega
  have hb4 : ¬ (cap = i) := by omega
  have hb5 : ¬ ((cap : Int) < (xs.length : Int) + 1) := by omega
  clear hW1 s1 s2 hvc hvs hds hdc hdl hvl A0 hsb hsa hkB hfa hfe hzc hz0 hA hB e1 e2
  go_enter Try.func38, Try.ntmps38
  go_wp2_with (simp only [hov])
  go_region_law_o (refine scp38 rfl _ _ 24 24 rfl _ _ (by simp [Act.eval, Act.put]) (by simp [Act.eval, Act.put]) (hcp1 _ _ _) ?_)
  go_wp2_with (at_builtin; refine lcp38 _ rfl _ _ 24 24 rfl _ _ rfl rfl (hcp2 _ (fun _ => rfl) (fun _ => rfl) _ _) ?_)
  go_ret
  exact ⟨rfl, 1, by rw [N.out]; rfl⟩

open Go.RowKit in
set_option maxHeartbeats 8000000 in
theorem grow38 (w : World) (xs ys : List (ByteArray × ByteArray × ByteArray × Unit)) (b off cap : Nat) (cur : Array Value) (ty : TypeId) (fz : Nat × Nat) (vb voff vcap : Nat) (vcur : Array Value) (vty : TypeId) (vfz : Nat × Nat) (i : Nat) (hA : OwnAt w (Ty.cons Ty.str (Ty.cons Ty.str (Ty.cons Ty.str Ty.unit))) xs b off cap cur ty fz) (hB : OwnAt w (Ty.cons Ty.str (Ty.cons Ty.str (Ty.cons Ty.str Ty.unit))) ys vb voff vcap vcur vty vfz) (h1 : ys.length = 1) (hvb : vb ≠ b) (hi : i < xs.length) (hroom : cap < xs.length + 1) (hmax : xs.length ≤ 1048576) :
      Calls Try.prog 38 #[.slice (some ⟨b, off, none⟩) xs.length cap, .int .i64 i, .slice (some ⟨vb, voff, none⟩) 1 vcap] w fun r w' => ∃ v', r = .returned v' ∧ w'.ownsRow w.heap.size 35 (Ty.size (Ty.cons Ty.str (Ty.cons Ty.str (Ty.cons Ty.str Ty.unit)))) v' (xs.length + 1) (fcs (Ty.cons Ty.str (Ty.cons Ty.str (Ty.cons Ty.str Ty.unit))) (xs.take i ++ (ys ++ xs.drop i))) ∧ Below w.heap.size w w' := by
  have mixed := mixed
  obtain ⟨i0, z, hi0, hz1, hz0, hzc, hzm, by', hb1, hb2, hb3⟩ := info38
  have hlen := hA.len
  have hcapm := hA.capm
  have hvl : (fcs (Ty.cons Ty.str (Ty.cons Ty.str (Ty.cons Ty.str Ty.unit))) ys).length = 1 * 3 := by
    have := fcs_length (t := (Ty.cons Ty.str (Ty.cons Ty.str (Ty.cons Ty.str Ty.unit)))) rfl (xs := ys) hB.wf
    rw [this, h1]; rfl
  have hdl : (fcs (Ty.cons Ty.str (Ty.cons Ty.str (Ty.cons Ty.str Ty.unit))) (xs.drop i)).length = (xs.length - i) * 3 := by
    have := fcs_length (t := (Ty.cons Ty.str (Ty.cons Ty.str (Ty.cons Ty.str Ty.unit)))) rfl (xs := xs.drop i) (fun x hx => hA.wf x (List.mem_of_mem_drop hx))
    rw [this, List.length_drop]; rfl
  have htl : (fcs (Ty.cons Ty.str (Ty.cons Ty.str (Ty.cons Ty.str Ty.unit))) (xs.take i)).length = i * 3 := by
    have := fcs_length (t := (Ty.cons Ty.str (Ty.cons Ty.str (Ty.cons Ty.str Ty.unit)))) rfl (xs := xs.take i) (fun x hx => hA.wf x (List.mem_of_mem_take hx))
    rw [this, List.length_take, Nat.min_eq_left (by omega)]; rfl
  have hdc : ∀ (k : Nat) (u : Value), (fcs (Ty.cons Ty.str (Ty.cons Ty.str (Ty.cons Ty.str Ty.unit))) (xs.drop i))[k]? = some u → w.cell? ⟨b, off + i * 3 + k, none⟩ = some u := fun k u hk => by
    have := hA.cell _ _ (fcs_drop rfl hA.wf i (by omega) k u hk)
    rwa [Nat.add_assoc]
  have htc : ∀ (k : Nat) (u : Value), (fcs (Ty.cons Ty.str (Ty.cons Ty.str (Ty.cons Ty.str Ty.unit))) (xs.take i))[k]? = some u → w.cell? ⟨b, off + k, none⟩ = some u := fun k u hk => hA.cell _ _ (fcs_take rfl hA.wf i k u hk)
  have hbw := hA.lt
  have hvw := hB.lt
  obtain ⟨vs, hvs⟩ : ∃ vs, vs = fcs (Ty.cons Ty.str (Ty.cons Ty.str (Ty.cons Ty.str Ty.unit))) ys := ⟨_, rfl⟩
  obtain ⟨ds, hds⟩ : ∃ ds, ds = fcs (Ty.cons Ty.str (Ty.cons Ty.str (Ty.cons Ty.str Ty.unit))) (xs.drop i) := ⟨_, rfl⟩
  obtain ⟨ts, hts⟩ : ∃ ts, ts = fcs (Ty.cons Ty.str (Ty.cons Ty.str (Ty.cons Ty.str Ty.unit))) (xs.take i) := ⟨_, rfl⟩
  have hvc : ∀ (j : Nat) (u : Value), vs[j]? = some u → w.cell? ⟨vb, voff + j, none⟩ = some u := fun j u hj => hB.cell j u (by rw [← hvs]; exact hj)
  have s1 : ∀ u ∈ ds, u.oneCell' = true := by rw [hds]; exact fcells_ones rfl _
  have s2 : ∀ u ∈ vs, u.oneCell' = true := by rw [hvs]; exact fcells_ones rfl _
  rw [fcs_append, fcs_append, ← hvs, ← hds, ← hts]
  rw [← hvs] at hvl
  rw [← hds] at hdl hdc
  rw [← hts] at htl htc
  have hbig : (xs.length + 1) * i0.bytes ≤ 140737488355328 := by
    have : (xs.length + 1) * i0.bytes ≤ 1048577 * i0.bytes := Nat.mul_le_mul_right _ (by omega)
    rw [Nat.mul_comm 1048577] at this
    omega
  have hkk : (xs.length : Int) + 1 - (i : Int) = ((xs.length + 1 - i : Nat) : Int) := by omega
  have hik : i + (xs.length + 1 - i) = xs.length + 1 := by omega
  have hold : (Builtin.firstCells i0.size i (.slice (some ⟨b, off, none⟩) i cap)).run Try.prog w.drew = .ok ts.toArray w.drew := by
    rw [hz1]
    exact run_firstCells_some w.drew 3 i ⟨b, off, none⟩ i cap ts htl (fun j v hj => by rw [Addr.add_lit]; exact htc j v hj)
  have h48 : (xs.length + 1 - i) * i0.bytes ≤ 281474976710656 := by
    have : (xs.length + 1 - i) * i0.bytes ≤ (xs.length + 1) * i0.bytes := Nat.mul_le_mul_right _ (by omega)
    omega
  have hrz : ∀ ty, (Builtin.append_ #[24, 3] ty #[.slice (some ⟨b, off, none⟩) i cap, .int .i64 ((xs.length : Int) + 1 - (i : Int))]).run Try.prog w =
      .ok (.slice (some ⟨w.heap.size, 0, none⟩) (xs.length + 1) (grownCap w (xs.length + 1) cap 35)) (w.drew.alloc (.cells (ts.toArray ++ Builtin.zeroCells z.cells (xs.length + 1 - i) ++ Builtin.zeroCells z.cells (grownCap w (xs.length + 1) cap 35 - (xs.length + 1))) 35)) := fun ty => by
    have h := Lib.run_append_grow_zeros w 24 3 ty 35 i0 z .i64 .i64 Try.underlying24 Try.underlying3 hi0 hz0 (some ⟨b, off, none⟩) i cap ts hold (xs.length + 1 - i) (by omega) (by omega) (by omega) (by omega) h48 (by rw [hik]; exact growslice_fits hroom hbig)
    rw [hik] at h
    rw [hkk]
    exact h
  have hge := grownCap_ge w (xs.length + 1) cap 35
  have hgm := grownCap_le_maxLen w (xs.length + 1) cap 35 (by unfold maxLen; omega)
  obtain ⟨G, hG⟩ : ∃ G, G = grownCap w (xs.length + 1) cap 35 := ⟨_, rfl⟩
  rw [← hG] at hrz hge hgm
  obtain ⟨ROW, hROW⟩ : ∃ ROW : Array Value, ROW = ts.toArray ++ Builtin.zeroCells z.cells (xs.length + 1 - i) ++ Builtin.zeroCells z.cells (G - (xs.length + 1)) := ⟨_, rfl⟩
  rw [← hROW] at hrz
  have hzs : ∀ k, (Builtin.zeroCells z.cells k).size = k * 3 := fun k => by
    rw [← Array.length_toList, hzc, zeroCells_k]; simp [dcells]
  have hRs : ROW.size = G * 3 := by
    rw [hROW, Array.size_append, Array.size_append, List.size_toArray, htl, hzs, hzs, ← Nat.add_mul, hik, ← Nat.add_mul]
    congr 1; omega
  have hRt : ∀ (k : Nat) (u : Value), ts[k]? = some u → ROW[k]? = some u := fun k u hk => by
    have hlt := (List.getElem?_eq_some_iff.1 hk).1
    rw [hROW, Array.append_assoc, Array.getElem?_append_left (by simpa using hlt)]
    simpa using hk
  have hmul : (xs.length + 1) * 3 ≤ G * 3 := Nat.mul_le_mul_right _ hge
  obtain ⟨W1, hW1⟩ : ∃ W1, W1 = w.drew.alloc (.cells ROW 35) := ⟨_, rfl⟩
  rw [← hW1] at hrz
  have hblk : W1.heap[w.heap.size]? = some (.cells ROW 35 (0, 0)) := by rw [hW1]; exact heap_alloc_new w.drew _
  have hN : ∀ j, j < G * 3 → (W1.cell? ⟨w.heap.size, j, none⟩).isSome = true := fun j hj => by
    simp only [World.cell?, hblk]; rw [Array.getElem?_eq_getElem (by omega)]; rfl
  have hNf : ∀ j, W1.frozen? ⟨w.heap.size, j, none⟩ = false := fun j => by
    simp only [World.frozen?, hblk]; simp
  have hOld : ∀ k, k < w.heap.size → W1.heap[k]? = w.heap[k]? := fun k hk => by rw [hW1]; exact heap_alloc_old w.drew _ hk
  have hOb : ∀ j v, w.cell? ⟨b, j, none⟩ = some v → W1.cell? ⟨b, j, none⟩ = some v := fun j v h => by simp only [World.cell?] at h ⊢; rw [hOld b hbw]; exact h
  have hOv : ∀ j v, w.cell? ⟨vb, j, none⟩ = some v → W1.cell? ⟨vb, j, none⟩ = some v := fun j v h => by simp only [World.cell?] at h ⊢; rw [hOld vb hvw]; exact h
  have hbN : b ≠ w.heap.size := by omega
  have e2 : (i + 1) * 3 = i * 3 + 3 := Nat.succ_mul _ _
  have e1 : (i + 1) * 3 + (xs.length - i) * 3 = (xs.length + 1) * 3 := by rw [← Nat.add_mul]; congr 1; omega
  have hcpA : ∀ (W : World), (∀ x, W.cell? x = W1.cell? x) → (∀ x, W.frozen? x = W1.frozen? x) → ∀ ty dc, (Builtin.copy_ #[24, 24] ty #[.slice (some ⟨w.heap.size, i * 3, none⟩) (xs.length + 1 - i) dc, .slice (some ⟨vb, voff, none⟩) 1 vcap]).run Try.prog W = .ok (goInt (Nat.min 1 (xs.length + 1 - i))) (W.setCells w.heap.size (i * 3) vs) := fun W hWc hWf ty dc =>
    run_copy_k W _ _ ty 35 3 w.heap.size (i * 3) (xs.length + 1 - i) dc ⟨vb, voff, none⟩ 1 vcap vs Try.underlying24 hzm (by rw [hvl]; congr 1; simp only [Nat.min_def]; split <;> omega)
      (fun j v hj => by rw [Addr.add_lit, hWc]; exact hOv _ v (hvc j v hj))
      (fun j hj => by rw [hWc]; exact hN _ (by omega)) (fun j hj => by rw [hWf]; exact hNf _) s2
  have hcpB : ∀ (W : World), (∀ x, W.cell? x = (W1.setCells w.heap.size (i * 3) vs).cell? x) → (∀ x, W.frozen? x = (W1.setCells w.heap.size (i * 3) vs).frozen? x) → ∀ ty dc sc, (Builtin.copy_ #[24, 24] ty #[.slice (some ⟨w.heap.size, (i + 1) * 3, none⟩) (xs.length - i) dc, .slice (some ⟨b, off + i * 3, none⟩) (xs.length - i) sc]).run Try.prog W = .ok (goInt (Nat.min (xs.length - i) (xs.length - i))) (W.setCells w.heap.size ((i + 1) * 3) ds) := fun W hWc hWf ty dc sc =>
    run_copy_k W _ _ ty 35 3 w.heap.size ((i + 1) * 3) (xs.length - i) dc ⟨b, off + i * 3, none⟩ (xs.length - i) sc ds Try.underlying24 hzm (by rw [hdl]; congr 1; simp only [Nat.min_def]; split <;> omega)
      (fun j v hj => by
        rw [Addr.add_lit, hWc, World.cell?_setCells_out _ _ _ _ _ (fun h _ => absurd h hbN)]
        exact hOb _ v (hdc j v hj))
      (fun j hj => by rw [hWc]; exact isSome_put _ _ _ _ _ (hN _ (by omega)))
      (fun j hj => by rw [hWf, World.frozen?_setCells]; exact hNf _) s1
  -- what the new row holds at the end
  have fin : ∀ q1 q2 : Nat, (((W1.drewN q1).setCells w.heap.size (i * 3) vs).drewN q2 |>.setCells w.heap.size ((i + 1) * 3) ds).ownsRow w.heap.size 35 (Ty.size (Ty.cons Ty.str (Ty.cons Ty.str (Ty.cons Ty.str Ty.unit)))) (.slice (some ⟨w.heap.size, 0, none⟩) (xs.length + 1) G) (xs.length + 1) (ts ++ (vs ++ ds)) ∧
      Below w.heap.size w (((W1.drewN q1).setCells w.heap.size (i * 3) vs).drewN q2 |>.setCells w.heap.size ((i + 1) * 3) ds) := fun q1 q2 => by
    have el : (ts ++ (vs ++ ds)).length = (xs.length + 1) * 3 := by
      rw [List.length_append, List.length_append, htl, hvl, hdl, ← Nat.add_mul, ← Nat.add_mul]; congr 1; omega
    have l1 : i * 3 + vs.length ≤ ROW.size := by rw [hvl, hRs]; omega
    obtain ⟨c1, g1, g2, g3, g4, g5, g6⟩ := setCells_block vs (show (W1.drewN q1).heap[w.heap.size]? = some (.cells ROW 35 (0, 0)) from hblk) l1
    have l2 : (i + 1) * 3 + ds.length ≤ c1.size := by rw [hdl, g2, hRs]; omega
    obtain ⟨c2, k1, k2, k3, k4, k5, k6⟩ := setCells_block ds (show (((W1.drewN q1).setCells w.heap.size (i * 3) vs).drewN q2).heap[w.heap.size]? = some (.cells c1 35 (0, 0)) from g1) l2
    have kA := setCells_kept vs (show (W1.drewN q1).heap[w.heap.size]? = some (.cells ROW 35 (0, 0)) from hblk) l1
    have kB := setCells_kept ds (show (((W1.drewN q1).setCells w.heap.size (i * 3) vs).drewN q2).heap[w.heap.size]? = some (.cells c1 35 (0, 0)) from g1) l2
    have kAll : Kept [w.heap.size] w (((W1.drewN q1).setCells w.heap.size (i * 3) vs).drewN q2 |>.setCells w.heap.size ((i + 1) * 3) ds) := by
      have k0 : Kept [w.heap.size] w W1 := by rw [hW1]; exact ((Kept.refl _ w).drew).alloc _
      have k1 : Kept [w.heap.size] W1 (W1.drewN q1) := ⟨rfl, rfl, rfl, Nat.le_refl _, fun _ _ _ => rfl⟩
      have k2 : Kept [w.heap.size] ((W1.drewN q1).setCells w.heap.size (i * 3) vs) (((W1.drewN q1).setCells w.heap.size (i * 3) vs).drewN q2) := ⟨rfl, rfl, rfl, Nat.le_refl _, fun _ _ _ => rfl⟩
      exact ((k0.trans k1).trans (kA.trans k2)).trans kB
    refine ⟨⟨el, .inr ⟨w.heap.size, G, c2, rfl, Nat.le_refl _, k1, hge, hgm, by rw [k2, g2, hRs]; rfl, ?_⟩⟩, ⟨kAll.os, kAll.tape, kAll.output, kAll.size, fun k hk => kAll.block k hk (by simp; omega)⟩⟩
    apply List.ext_getElem?
    intro k
    rw [List.getElem?_take]
    by_cases hk : k < (xs.length + 1) * 3
    · rw [if_pos (show k < (xs.length + 1) * Ty.size (Ty.cons Ty.str (Ty.cons Ty.str (Ty.cons Ty.str Ty.unit))) from hk), Array.getElem?_toList]
      have hk' : k < (ts ++ (vs ++ ds)).length := by rw [el]; exact hk
      obtain ⟨u, hu⟩ : ∃ u, (ts ++ (vs ++ ds))[k]? = some u := ⟨_, List.getElem?_eq_getElem hk'⟩
      rw [hu]
      by_cases h1 : k < i * 3
      · rw [List.getElem?_append_left (by omega)] at hu
        rw [k4 _ (.inl (by omega)), g4 _ (.inl (by omega))]
        exact hRt k u hu
      · rw [List.getElem?_append_right (by omega), htl] at hu
        by_cases h2 : k < i * 3 + 3
        · rw [List.getElem?_append_left (by omega)] at hu
          have := g3 _ u hu
          rw [k4 _ (.inl (by omega))]
          rwa [show i * 3 + (k - i * 3) = k by omega] at this
        · rw [List.getElem?_append_right (by omega), hvl] at hu
          have := k3 _ u hu
          rwa [show (i + 1) * 3 + (k - i * 3 - 1 * 3) = k by omega] at this
    · rw [if_neg (show ¬ k < (xs.length + 1) * Ty.size (Ty.cons Ty.str (Ty.cons Ty.str (Ty.cons Ty.str Ty.unit))) from hk), List.getElem?_eq_none (by rw [el]; omega)]
  have F : Aside (∀ q1 q2 : Nat, (((W1.drewN q1).setCells w.heap.size (i * 3) vs).drewN q2 |>.setCells w.heap.size ((i + 1) * 3) ds).ownsRow w.heap.size 35 (Ty.size (Ty.cons Ty.str (Ty.cons Ty.str (Ty.cons Ty.str Ty.unit)))) (.slice (some ⟨w.heap.size, 0, none⟩) (xs.length + 1) G) (xs.length + 1) (ts ++ (vs ++ ds)) ∧
      Below w.heap.size w (((W1.drewN q1).setCells w.heap.size (i * 3) vs).drewN q2 |>.setCells w.heap.size ((i + 1) * 3) ds)) := fin
  subst hW1
  have hE1 : ∀ x, ((w.alloc (.cells ROW 35)).drew).cell? x = (w.drew.alloc (.cells ROW 35)).cell? x := fun x => rfl
  have hE2 : ∀ x, ((w.alloc (.cells ROW 35)).drew).frozen? x = (w.drew.alloc (.cells ROW 35)).frozen? x := fun x => rfl
  have hF1 : ∀ x, (((w.alloc (.cells ROW 35)).drew.setCells w.heap.size (i * 3) vs).drew).cell? x = ((w.drew.alloc (.cells ROW 35)).setCells w.heap.size (i * 3) vs).cell? x := fun x => rfl
  have hF2 : ∀ x, (((w.alloc (.cells ROW 35)).drew.setCells w.heap.size (i * 3) vs).drew).frozen? x = ((w.drew.alloc (.cells ROW 35)).setCells w.heap.size (i * 3) vs).frozen? x := fun x => rfl
  have hz2 : ¬ ((i : Int) = (xs.length : Int)) := by omega
  have hw1 : IntKind.i64.wrap ((i : Int) + 1) = (i : Int) + 1 := by rw [IntKind.wrap_i64]; omega
  have hw2 : IntKind.i64.wrap ((xs.length : Int) + 1) = (xs.length : Int) + 1 := by rw [IntKind.wrap_i64]; omega
  have hw3 : IntKind.i64.wrap ((xs.length : Int) + 1 - (i : Int)) = (xs.length : Int) + 1 - (i : Int) := by rw [IntKind.wrap_i64]; omega
  have hb1 : (0 : Int) ≤ (i : Int) + 1 := by omega
  have hin : i ≤ xs.length := by omega
  have htn : ((i : Int) + 1).toNat = i + 1 := by omega
  have hGi : ¬ (G = i) := by omega
  have hGim : ¬ (G = i + 1) := by omega
  have hci : ¬ (cap = i) := by omega
  have hb3 : (i : Int) ≤ (xs.length : Int) := by omega
  have hb5 : (cap : Int) < (xs.length : Int) + 1 := by omega
  have hG63 : G ≤ 9223372036854775807 := by unfold maxLen at hgm; exact hgm
  clear hkk hik hold hROW hG hRs hRt hzs hN hNf hOld hOb hOv fin s1 s2 hvc hvs hds hts hdc htc hdl htl hvl hzc hz0 hA hB e1 e2 hmul hblk
  go_enter Try.func38, Try.ntmps38
  go_wp2_with (first
    | (at_builtin; refine Lib.wpList_append_run _ rfl _ _ _ _ rfl _ _ rfl rfl _ _ (hrz _) ?_)
    | (at_builtin; refine lcp38 _ rfl _ _ 24 24 rfl _ _ rfl rfl (hcpA _ hE1 hE2 _ _) ?_)
    | (at_builtin; refine lcp38 _ rfl _ _ 24 24 rfl _ _ rfl rfl (hcpB _ (fun _ => rfl) (fun _ => rfl) _ _ _) ?_))
  go_region_law_o (refine scp38 rfl _ _ 24 24 rfl (.slice (some ⟨w.heap.size, (i + 1) * 3, none⟩) (xs.length - i) (G - (i + 1))) (.slice (some ⟨b, off + i * 3, none⟩) (xs.length - i) (cap - i)) (by simp [Act.eval, Act.put]) (by simp [Act.eval, Act.put]) (hcpB _ hF1 hF2 3 (G - (i + 1)) (cap - i)) ?_)
  go_wp2
  go_ret
  exact ⟨_, rfl, (F.out 0 1).1, (F.out 0 1).2⟩

def sig38 : List AT := [AT.own (Ty.cons Ty.str (Ty.cons Ty.str (Ty.cons Ty.str Ty.unit))), AT.v (Ty.int .i64), AT.own (Ty.cons Ty.str (Ty.cons Ty.str (Ty.cons Ty.str Ty.unit)))]
def g38_0 (x0 : List (ByteArray × ByteArray × ByteArray × Unit)) (x1 : Int) (x2 : List (ByteArray × ByteArray × ByteArray × Unit)) : List (ByteArray × ByteArray × ByteArray × Unit) := x0.take x1.toNat ++ (x2 ++ x0.drop x1.toNat)
def P38 (x0 : List (ByteArray × ByteArray × ByteArray × Unit)) (x1 : Int) (x2 : List (ByteArray × ByteArray × ByteArray × Unit)) : Prop := 0 ≤ x1 ∧ x1 ≤ x0.length ∧ x2.length = 1 ∧ x0.length ≤ 1048576
def S38 : Am.Spec := { sig := sig38, pre := fun ⟨x0, x1, x2, _⟩ => P38 x0 x1 x2, upd := fun _ => [none, none], res := fun ⟨x0, x1, x2, _⟩ => [⟨Ty.sl (Ty.cons Ty.str (Ty.cons Ty.str (Ty.cons Ty.str Ty.unit))), g38_0 x0 x1 x2⟩] }
theorem con38 : Contract Try.prog 38 S38 := insert_contract (t := (Ty.cons Ty.str (Ty.cons Ty.str (Ty.cons Ty.str Ty.unit)))) (e := 35) rfl shift38 grow38 end38 last38

end Go.Proofs.Ytakodkjcmacofaa

/- Function 26 (impl.putBlock): its runs between cut points. Written by a program of this repo (gen). -/
set_option linter.unusedVariables false
set_option linter.unusedSimpArgs false
set_option maxRecDepth 100000
namespace Go.Proofs.Ytakodkjcmacofaa
open Go Go.Am Go.Proofs
def ext26 : Ext := [(25, S25), (32, S32), (38, S38)]
theorem call26_25 : Callable Try.prog 25 := ⟨Try.f25, Try.func25, by kernel_rfl, by kernel_rfl⟩
theorem call26_32 : Callable Try.prog 32 := ⟨Try.f32, Try.func32, by kernel_rfl, by kernel_rfl⟩
theorem call26_38 : Callable Try.prog 38 := ⟨Try.f38, Try.func38, by kernel_rfl, by kernel_rfl⟩
theorem ext26Ok : ExtOk Try.prog ext26 := ⟨⟨call26_25, con25⟩, ⟨call26_32, con32⟩, ⟨call26_38, con38⟩, trivial⟩
/-! Function 26. -/
noncomputable def b26 : Code := bodyOf Try.f26
theorem hb26 : Try.f26.body = some b26 := by kernel_rfl
def sig26 : List AT := [AT.v (Ty.sl (Ty.cons Ty.str (Ty.cons Ty.str (Ty.cons Ty.str Ty.unit)))), AT.v (Ty.cons Ty.str (Ty.cons Ty.str (Ty.cons Ty.str Ty.unit)))]
def tys26 : List Ty := [Ty.sl (Ty.cons Ty.str (Ty.cons Ty.str (Ty.cons Ty.str Ty.unit)))]
def P26 (x0 : List (ByteArray × ByteArray × ByteArray × Unit)) (x1 : ByteArray × ByteArray × ByteArray × Unit) : Prop := ((P25 x0) ∧ ((P32 (g25_0 x0) x1) ∧ (if (g32_1 (g25_0 x0) x1) = true then ((0 ≤ g32_0 (g25_0 x0) x1) ∧ (g32_0 (g25_0 x0) x1 < (↑(List.length (g25_0 x0)) : Int)) ∧ True) else ((P38 (g25_0 x0) (g32_0 (g25_0 x0) x1) [x1]) ∧ True))))
def g26_0 (x0 : List (ByteArray × ByteArray × ByteArray × Unit)) (x1 : ByteArray × ByteArray × ByteArray × Unit) : List (ByteArray × ByteArray × ByteArray × Unit) := (if (g32_1 (g25_0 x0) x1) = true then List.set (g25_0 x0) (Int.toNat (g32_0 (g25_0 x0) x1)) x1 else g38_0 (g25_0 x0) (g32_0 (g25_0 x0) x1) [x1])
theorem p26_0 (x0 : List (ByteArray × ByteArray × ByteArray × Unit)) (x1 : ByteArray × ByteArray × ByteArray × Unit) : runF tab ext26 false 27 [] 2000 [] tys26 Try.f26.results [true] [.code b26] (entE 0 0 sig26 (x0, x1, ())) (entL sig26 (x0, x1, ())) = some ([Dyn.mk (Ty.sl (Ty.cons Ty.str (Ty.cons Ty.str (Ty.cons Ty.str Ty.unit)))) (List.set (g25_0 x0) (Int.toNat (g32_0 (g25_0 x0) x1)) x1)], [], [P25 x0, P32 (g25_0 x0) x1, g32_1 (g25_0 x0) x1 = Bool.true, 0 ≤ g32_0 (g25_0 x0) x1, g32_0 (g25_0 x0) x1 < (↑(List.length (g25_0 x0)) : Int)]) := by kernel_rfl
theorem p26_1 (x0 : List (ByteArray × ByteArray × ByteArray × Unit)) (x1 : ByteArray × ByteArray × ByteArray × Unit) : runF tab ext26 false 27 [] 2000 [] tys26 Try.f26.results [false] [.code b26] (entE 0 0 sig26 (x0, x1, ())) (entL sig26 (x0, x1, ())) = some ([Dyn.mk (Ty.sl (Ty.cons Ty.str (Ty.cons Ty.str (Ty.cons Ty.str Ty.unit)))) (g38_0 (g25_0 x0) (g32_0 (g25_0 x0) x1) [x1])], [], [P25 x0, P32 (g25_0 x0) x1, g32_1 (g25_0 x0) x1 = Bool.false, P38 (g25_0 x0) (g32_0 (g25_0 x0) x1) [x1]]) := by kernel_rfl
theorem at26 (x0 : List (ByteArray × ByteArray × ByteArray × Unit)) (x1 : ByteArray × ByteArray × ByteArray × Unit) (h : P26 x0 x1) (w0 : World) (O : List Nat) (q : Nat → Value) : AtV Try.prog 26 (PostR [⟨Ty.sl (Ty.cons Ty.str (Ty.cons Ty.str (Ty.cons Ty.str Ty.unit))), g26_0 x0 x1⟩] [] [] q w0 O) 27 w0 O q [] [.code b26] (entE 0 0 sig26 (x0, x1, ())) (entL sig26 (x0, x1, ())) := by
  unfold P26 at h
  unfold g26_0
  obtain ⟨s0, h⟩ := h
  obtain ⟨s1, h⟩ := h
  by_cases b0 : (g32_1 (g25_0 x0) x1) = true
  · try simp only [if_pos b0] at h ⊢
    obtain ⟨s2, s3, h⟩ := h
    exact AtV.fin Try.func26 tabOk ext26Ok mixed (p26_0 x0 x1) ⟨s0, s1, b0, s2, s3, trivial⟩
  · try simp only [if_neg b0] at h ⊢
    replace b0 := Bool.eq_false_iff.2 b0
    obtain ⟨s2, h⟩ := h
    exact AtV.fin Try.func26 tabOk ext26Ok mixed (p26_1 x0 x1) ⟨s0, s1, b0, s2, trivial⟩

def S26 : Am.Spec := { sig := sig26, pre := fun ⟨x0, x1, _⟩ => P26 x0 x1, res := fun ⟨x0, x1, _⟩ => [⟨Ty.sl (Ty.cons Ty.str (Ty.cons Ty.str (Ty.cons Ty.str Ty.unit))), g26_0 x0 x1⟩] }
theorem con26 : Contract Try.prog 26 S26 := contract_of Try.func26 hb26 (Nat.le_of_ble_eq_true (by kernel_rfl)) (fun ⟨x0, x1, _⟩ h _ w0 O q => at26 x0 x1 h w0 O q)


theorem bsb26 (p : Nat → Bool) : ∀ (m i j : Nat), i ≤ j → i ≤ bsearch p m i j ∧ bsearch p m i j ≤ j
  | 0, i, j, h => ⟨Nat.le_refl _, h⟩
  | m + 1, i, j, h => by
    simp only [bsearch]
    split
    · split
      · have := bsb26 p m ((i + j) / 2 + 1) j (by omega); omega
      · have := bsb26 p m i ((i + j) / 2) (by omega); omega
    · omega

theorem atk26 (x0 : List (ByteArray × ByteArray × ByteArray × Unit)) (x1 : (ByteArray × ByteArray × ByteArray × Unit)) : 0 ≤ g32_0 x0 x1 ∧ g32_0 x0 x1 ≤ x0.length ∧ (g32_1 x0 x1 = true → g32_0 x0 x1 < x0.length) := by
  have := bsb26 (p44c37 x0 x1) (x0.length + 1) 0 x0.length (by omega)
  unfold g32_0 g32_1 g44c37_0 g44c37_1 f44c37
  unfold k44c37 at *
  refine ⟨by omega, by omega, fun h => ?_⟩
  split at h
  · omega
  · cases h

theorem pre26 (x0 : List (ByteArray × ByteArray × ByteArray × Unit)) (x1 : (ByteArray × ByteArray × ByteArray × Unit)) (hl : x0.length ≤ 1048576) : P26 x0 x1 := by
  obtain ⟨a1, a2, a3⟩ := atk26 x0 x1
  have p1 : P25 x0 := hl
  have p2 : P32 x0 x1 := ⟨(show x0.length ≤ 4611686018427387903 from by omega), trivial⟩
  unfold P26
  refine ⟨p1, p2, ?_⟩
  by_cases h : g32_1 (g25_0 x0) x1 = true
  · rw [if_pos h]
    exact ⟨a1, a3 h, trivial⟩
  · rw [if_neg h]
    exact ⟨⟨a1, a2, rfl, hl⟩, trivial⟩

theorem len26 (x0 : List (ByteArray × ByteArray × ByteArray × Unit)) (x1 : (ByteArray × ByteArray × ByteArray × Unit)) : (g26_0 x0 x1).length ≤ x0.length + 1 := by
  unfold g26_0
  by_cases h : g32_1 (g25_0 x0) x1 = true
  · rw [if_pos h]; simp [g25_0]
  · rw [if_neg h]
    unfold g38_0 g25_0
    simp only [List.length_append, List.length_take, List.length_drop, List.length_singleton]
    omega

end Go.Proofs.Ytakodkjcmacofaa

/- Function 8 (impl.MergeBlocks): its runs between cut points. Written by a program of this repo (gen). -/
set_option linter.unusedVariables false
set_option linter.unusedSimpArgs false
set_option maxRecDepth 100000
namespace Go.Proofs.Ytakodkjcmacofaa
open Go Go.Am Go.Proofs
def ext8 : Ext := [(24, S24), (25, S25), (26, S26)]
theorem call8_24 : Callable Try.prog 24 := ⟨Try.f24, Try.func24, by kernel_rfl, by kernel_rfl⟩
theorem call8_25 : Callable Try.prog 25 := ⟨Try.f25, Try.func25, by kernel_rfl, by kernel_rfl⟩
theorem call8_26 : Callable Try.prog 26 := ⟨Try.f26, Try.func26, by kernel_rfl, by kernel_rfl⟩
theorem ext8Ok : ExtOk Try.prog ext8 := ⟨⟨call8_24, con24⟩, ⟨call8_25, con25⟩, ⟨call8_26, con26⟩, trivial⟩
/-! Function 8. -/
noncomputable def b8 : Code := bodyOf Try.f8
theorem hb8 : Try.f8.body = some b8 := by kernel_rfl
def sig8 : List AT := [AT.v (Ty.sl (Ty.cons Ty.str (Ty.cons Ty.str (Ty.cons Ty.str Ty.unit)))), AT.v (Ty.sl (Ty.cons Ty.str (Ty.cons Ty.str (Ty.cons Ty.str Ty.unit))))]
def tys8 : List Ty := [Ty.sl (Ty.cons Ty.str (Ty.cons Ty.str (Ty.cons Ty.str Ty.unit))), Ty.int IntKind.i64]
def E8_5 (v21 : Int) (h0 : List (ByteArray × ByteArray × ByteArray × Unit)) (x1 : List (ByteArray × ByteArray × ByteArray × Unit)) : Env := [(6, PV.a (Atom.osl 0 Option.none)), (19, PV.a (Atom.sl (Ty.cons Ty.str (Ty.cons Ty.str (Ty.cons Ty.str Ty.unit))) x1)), (20, PV.a (Atom.val (Value.int IntKind.i64 (↑(List.length x1) : Int)))), (21, PV.a (Atom.val (Value.int IntKind.i64 v21)))]
def L8_5 (v21 : Int) (h0 : List (ByteArray × ByteArray × ByteArray × Unit)) (x1 : List (ByteArray × ByteArray × ByteArray × Unit)) : Heap := [Option.some (Arr.mk (Ty.cons Ty.str (Ty.cons Ty.str (Ty.cons Ty.str Ty.unit))) h0 Bool.false)]
mutual
def R8 : Nat → List (ByteArray × ByteArray × ByteArray × Unit) → List (ByteArray × ByteArray × ByteArray × Unit) → List Dyn → Prop
  | 0, _, _, _ => False
  | n + 1, x0, x1, ds => (if (!g24_0 x0) = true then (ds = [Dyn.mk (Ty.sl (Ty.cons Ty.str (Ty.cons Ty.str (Ty.cons Ty.str Ty.unit)))) [], Dyn.mk (Ty.int IntKind.i64) 1]) else (if (!g24_0 x1) = true then (ds = [Dyn.mk (Ty.sl (Ty.cons Ty.str (Ty.cons Ty.str (Ty.cons Ty.str Ty.unit)))) [], Dyn.mk (Ty.int IntKind.i64) 1]) else ((P25 x0) ∧ (R8_5 n (0) (g25_0 x0) (x1) ds))))
def R8_5 : Nat → Int → List (ByteArray × ByteArray × ByteArray × Unit) → List (ByteArray × ByteArray × ByteArray × Unit) → List Dyn → Prop
  | 0, _, _, _, _ => False
  | n + 1, v21, h0, x1, ds => (if (Decidable.decide (v21 < (↑(List.length x1) : Int))) = true then ((0 ≤ v21) ∧ (v21 < (↑(List.length x1) : Int)) ∧ ((P26 h0 (List.getD x1 (Int.toNat v21) (ByteArray.empty, ByteArray.empty, ByteArray.empty, ()))) ∧ ((InR IntKind.i64 (v21 + 1)) ∧ (R8_5 n (v21 + 1) (g26_0 h0 (List.getD x1 (Int.toNat v21) (ByteArray.empty, ByteArray.empty, ByteArray.empty, ()))) (x1) ds)))) else (if (Decidable.decide ((↑(List.length h0) : Int) > 32)) = true then (ds = [Dyn.mk (Ty.sl (Ty.cons Ty.str (Ty.cons Ty.str (Ty.cons Ty.str Ty.unit)))) [], Dyn.mk (Ty.int IntKind.i64) 5]) else (ds = [Dyn.mk (Ty.sl (Ty.cons Ty.str (Ty.cons Ty.str (Ty.cons Ty.str Ty.unit)))) h0, Dyn.mk (Ty.int IntKind.i64) 0])))
end
theorem p8_0 (x0 : List (ByteArray × ByteArray × ByteArray × Unit)) (x1 : List (ByteArray × ByteArray × ByteArray × Unit)) : runF tab ext8 false 33 [] 2000 [] tys8 Try.f8.results [true, true] [.code b8] (entE 0 0 sig8 (x0, x1, ())) (entL sig8 (x0, x1, ())) = some ([Dyn.mk (Ty.sl (Ty.cons Ty.str (Ty.cons Ty.str (Ty.cons Ty.str Ty.unit)))) [], Dyn.mk (Ty.int IntKind.i64) 1], [], [True, (!g24_0 x0) = Bool.true, Bool.true = Bool.true]) := by kernel_rfl
theorem p8_1 (x0 : List (ByteArray × ByteArray × ByteArray × Unit)) (x1 : List (ByteArray × ByteArray × ByteArray × Unit)) : runF tab ext8 false 33 [] 2000 [] tys8 Try.f8.results [false, true] [.code b8] (entE 0 0 sig8 (x0, x1, ())) (entL sig8 (x0, x1, ())) = some ([Dyn.mk (Ty.sl (Ty.cons Ty.str (Ty.cons Ty.str (Ty.cons Ty.str Ty.unit)))) [], Dyn.mk (Ty.int IntKind.i64) 1], [], [True, (!g24_0 x0) = Bool.false, True, (!g24_0 x1) = Bool.true]) := by kernel_rfl
theorem p8_2 (x0 : List (ByteArray × ByteArray × ByteArray × Unit)) (x1 : List (ByteArray × ByteArray × ByteArray × Unit)) : Am.runN tab ext8 false 33 [] 2000 [] [] [6, 19, 20, 21] [0] [false, false] [.code b8] (entE 0 0 sig8 (x0, x1, ())) (entL sig8 (x0, x1, ())) = some (cutAt b8 5, E8_5 (0) (g25_0 x0) (x1), L8_5 (0) (g25_0 x0) (x1), [True, (!g24_0 x0) = Bool.false, True, (!g24_0 x1) = Bool.false, P25 x0]) := by kernel_rfl
theorem p8_3 (v21 : Int) (h0 : List (ByteArray × ByteArray × ByteArray × Unit)) (x1 : List (ByteArray × ByteArray × ByteArray × Unit)) : Am.runN tab ext8 false 33 [] 2000 [] [] [6, 19, 20, 21] [2] [true] (cutAt b8 5) (E8_5 v21 h0 x1) (L8_5 v21 h0 x1) = some (cutAt b8 5, E8_5 (v21 + 1) (g26_0 h0 (List.getD x1 (Int.toNat v21) (ByteArray.empty, ByteArray.empty, ByteArray.empty, ()))) (x1), L8_5 (v21 + 1) (g26_0 h0 (List.getD x1 (Int.toNat v21) (ByteArray.empty, ByteArray.empty, ByteArray.empty, ()))) (x1), [Decidable.decide (v21 < (↑(List.length x1) : Int)) = Bool.true, 0 ≤ v21, v21 < (↑(List.length x1) : Int), P26 h0 (List.getD x1 (Int.toNat v21) (ByteArray.empty, ByteArray.empty, ByteArray.empty, ())), InR IntKind.i64 (v21 + 1)]) := by kernel_rfl
theorem p8_4 (v21 : Int) (h0 : List (ByteArray × ByteArray × ByteArray × Unit)) (x1 : List (ByteArray × ByteArray × ByteArray × Unit)) : runF tab ext8 false 33 [] 2000 [] tys8 Try.f8.results [false, true] (cutAt b8 5) (E8_5 v21 h0 x1) (L8_5 v21 h0 x1) = some ([Dyn.mk (Ty.sl (Ty.cons Ty.str (Ty.cons Ty.str (Ty.cons Ty.str Ty.unit)))) [], Dyn.mk (Ty.int IntKind.i64) 5], [], [Decidable.decide (v21 < (↑(List.length x1) : Int)) = Bool.false, Decidable.decide ((↑(List.length h0) : Int) > 32) = Bool.true]) := by kernel_rfl
theorem p8_5 (v21 : Int) (h0 : List (ByteArray × ByteArray × ByteArray × Unit)) (x1 : List (ByteArray × ByteArray × ByteArray × Unit)) : runF tab ext8 false 33 [] 2000 [] tys8 Try.f8.results [false, false] (cutAt b8 5) (E8_5 v21 h0 x1) (L8_5 v21 h0 x1) = some ([Dyn.mk (Ty.sl (Ty.cons Ty.str (Ty.cons Ty.str (Ty.cons Ty.str Ty.unit)))) h0, Dyn.mk (Ty.int IntKind.i64) 0], [], [Decidable.decide (v21 < (↑(List.length x1) : Int)) = Bool.false, Decidable.decide ((↑(List.length h0) : Int) > 32) = Bool.false]) := by kernel_rfl
theorem snd8 : ∀ n, (∀ (x0 : List (ByteArray × ByteArray × ByteArray × Unit)) (x1 : List (ByteArray × ByteArray × ByteArray × Unit)) ds, R8 n x0 x1 ds → ∀ w0 O q, AtV Try.prog 8 (PostR ds [] [] q w0 O) 33 w0 O q [] [.code b8] (entE 0 0 sig8 (x0, x1, ())) (entL sig8 (x0, x1, ()))) ∧ (∀ (v21 : Int) (h0 : List (ByteArray × ByteArray × ByteArray × Unit)) (x1 : List (ByteArray × ByteArray × ByteArray × Unit)) ds, R8_5 n v21 h0 x1 ds → ∀ w0 O q, AtV Try.prog 8 (PostR ds [] [] q w0 O) 33 w0 O q [] (cutAt b8 5) (E8_5 v21 h0 x1) (L8_5 v21 h0 x1)) := by
  intro n
  induction n with
  | zero => exact ⟨fun _ _ _ h => by simp only [R8] at h, fun _ _ _ _ h => by simp only [R8_5] at h⟩
  | succ n ih =>
  obtain ⟨ih, ih5⟩ := ih
  refine ⟨?_, ?_⟩
  · intro x0 x1 ds h w0 O q
    rw [R8] at h
    by_cases b0 : (!g24_0 x0) = true
    · rw [if_pos b0] at h
      subst h
      exact AtV.fin Try.func8 tabOk ext8Ok mixed (p8_0 x0 x1) ⟨trivial, b0, rfl, trivial⟩
    · rw [if_neg b0] at h
      replace b0 := Bool.eq_false_iff.2 b0
      by_cases b1 : (!g24_0 x1) = true
      · rw [if_pos b1] at h
        subst h
        exact AtV.fin Try.func8 tabOk ext8Ok mixed (p8_1 x0 x1) ⟨trivial, b0, trivial, b1, trivial⟩
      · rw [if_neg b1] at h
        replace b1 := Bool.eq_false_iff.2 b1
        obtain ⟨s0, h⟩ := h
        exact AtV.runN tabOk ext8Ok mixed (p8_2 x0 x1) ⟨trivial, b0, trivial, b1, s0, trivial⟩ (ih5 _ _ _ _ h w0 O q)

  · intro v21 h0 x1 ds h w0 O q
    rw [R8_5] at h
    by_cases b0 : (Decidable.decide (v21 < (↑(List.length x1) : Int))) = true
    · rw [if_pos b0] at h
      obtain ⟨s0, s1, h⟩ := h
      obtain ⟨s2, h⟩ := h
      obtain ⟨s3, h⟩ := h
      exact AtV.runN tabOk ext8Ok mixed (p8_3 v21 h0 x1) ⟨b0, s0, s1, s2, s3, trivial⟩ (ih5 _ _ _ _ h w0 O q)
    · rw [if_neg b0] at h
      replace b0 := Bool.eq_false_iff.2 b0
      by_cases b1 : (Decidable.decide ((↑(List.length h0) : Int) > 32)) = true
      · rw [if_pos b1] at h
        subst h
        exact AtV.fin Try.func8 tabOk ext8Ok mixed (p8_4 v21 h0 x1) ⟨b0, b1, trivial⟩
      · rw [if_neg b1] at h
        replace b1 := Bool.eq_false_iff.2 b1
        subst h
        exact AtV.fin Try.func8 tabOk ext8Ok mixed (p8_5 v21 h0 x1) ⟨b0, b1, trivial⟩



def all8 (x0 x1 : List (ByteArray × ByteArray × ByteArray × Unit)) : List (ByteArray × ByteArray × ByteArray × Unit) := x1.foldl (fun h t => g26_0 h t) x0
def g8_0 (x0 x1 : List (ByteArray × ByteArray × ByteArray × Unit)) : List (ByteArray × ByteArray × ByteArray × Unit) := if (g24_0 x0 && g24_0 x1) = true then (if (all8 x0 x1).length > 32 then [] else all8 x0 x1) else []
def g8_1 (x0 x1 : List (ByteArray × ByteArray × ByteArray × Unit)) : Int := if (g24_0 x0 && g24_0 x1) = true then (if (all8 x0 x1).length > 32 then 5 else 0) else 1
def P8 (x0 x1 : List (ByteArray × ByteArray × ByteArray × Unit)) : Prop := x0.length + x1.length ≤ 1048576

theorem top8 (x0 x1 : List (ByteArray × ByteArray × ByteArray × Unit)) (hp : P8 x0 x1) : ∃ n, R8 n x0 x1 [⟨.sl (.cons .str (.cons .str (.cons .str .unit))), g8_0 x0 x1⟩, ⟨.int .i64, g8_1 x0 x1⟩] := by
  have hl : x0.length + x1.length ≤ 1048576 := hp
  have hm : x1.length ≤ maxLen := by unfold maxLen; omega
  unfold g8_0 g8_1
  refine ⟨x1.length + 1 + 1, ?_⟩
  rw [R8]
  cases h0 : g24_0 x0 with
  | false => simp
  | true =>
    cases h1 : g24_0 x1 with
    | false => simp
    | true =>
      simp only [Bool.not_true, Bool.false_eq_true, if_false, Bool.and_true, if_true]
      refine ⟨(show x0.length ≤ 1048576 from by omega), ?_⟩
      refine loop_fold (β := List (ByteArray × ByteArray × ByteArray × Unit)) (δ := List Dyn) (b := x0) x1 (ByteArray.empty, ByteArray.empty, ByteArray.empty, ()) (fun h t => g26_0 h t) (fun h => [(⟨.sl (.cons .str (.cons .str (.cons .str .unit))), if h.length > 32 then [] else h⟩ : Dyn), ⟨.int .i64, (if h.length > 32 then (5 : Int) else 0)⟩]) (fun n h => h.length ≤ x0.length + n) (fun n i h ds => R8_5 n i h x1 ds) (by omega) (fun n h hs => ?_) (fun n i h hi hs => ⟨?_, fun ds hr => ?_⟩)
      · show R8_5 (n + 1) (x1.length : Int) h x1 _
        rw [R8_5, if_neg (by simp)]
        by_cases hc : h.length > 32
        · rw [if_pos (by simp only [decide_eq_true_eq]; omega), if_pos hc, if_pos hc]
        · rw [if_neg (by simp only [decide_eq_true_eq]; omega), if_neg hc, if_neg hc]
      · have := len26 h (x1.getD i (ByteArray.empty, ByteArray.empty, ByteArray.empty, ()))
        show (g26_0 h (x1.getD i (ByteArray.empty, ByteArray.empty, ByteArray.empty, ()))).length ≤ x0.length + (i + 1)
        omega
      · have hup := inR_up hm hi
        have q : P26 h (x1.getD i (ByteArray.empty, ByteArray.empty, ByteArray.empty, ())) := pre26 h _ (by omega)
        show R8_5 (n + 1) (i : Int) h x1 ds
        rw [R8_5, if_pos (by simp only [decide_eq_true_eq]; omega)]
        simp only [Int.toNat_natCast]
        exact ⟨by omega, by omega, q, hup, hr⟩

def S8 : Am.Spec := { sig := sig8, pre := fun ⟨x0, x1, _⟩ => P8 x0 x1, res := fun ⟨x0, x1, _⟩ => [⟨.sl (.cons .str (.cons .str (.cons .str .unit))), g8_0 x0 x1⟩, ⟨.int .i64, g8_1 x0 x1⟩] }
theorem con8 : Contract Try.prog 8 S8 := contract_of Try.func8 hb8 (Nat.le_of_ble_eq_true (by kernel_rfl)) (fun ⟨x0, x1, _⟩ h hwf w0 O q =>
  let ⟨n, hn⟩ := top8 x0 x1 h
  (snd8 n).1 x0 x1 _ hn w0 O q)

end Go.Proofs.Ytakodkjcmacofaa

/- Function 27 (laws.eqBlock): its runs between cut points. Written by a program of this repo (gen). -/
set_option linter.unusedVariables false
set_option linter.unusedSimpArgs false
set_option maxRecDepth 100000
namespace Go.Proofs.Ytakodkjcmacofaa
open Go Go.Am Go.Proofs
def ext27 : Ext := []
theorem ext27Ok : ExtOk Try.prog ext27 := trivial
/-! Function 27. -/
noncomputable def b27 : Code := bodyOf Try.f27
theorem hb27 : Try.f27.body = some b27 := by kernel_rfl
def sig27 : List AT := [AT.v (Ty.cons Ty.str (Ty.cons Ty.str (Ty.cons Ty.str Ty.unit))), AT.v (Ty.cons Ty.str (Ty.cons Ty.str (Ty.cons Ty.str Ty.unit)))]
def tys27 : List Ty := [Ty.bool]
def P27 (x0 : ByteArray × ByteArray × ByteArray × Unit) (x1 : ByteArray × ByteArray × ByteArray × Unit) : Prop := True
def g27_0 (x0 : ByteArray × ByteArray × ByteArray × Unit) (x1 : ByteArray × ByteArray × ByteArray × Unit) : Bool := (if (!ByteArray.toList (Prod.fst x0) == ByteArray.toList (Prod.fst x1)) = true then Bool.false else (if (!ByteArray.toList (Prod.fst (Prod.snd x0)) == ByteArray.toList (Prod.fst (Prod.snd x1))) = true then Bool.false else (if (!ByteArray.toList (Prod.fst (Prod.snd (Prod.snd x0))) == ByteArray.toList (Prod.fst (Prod.snd (Prod.snd x1)))) = true then Bool.false else Bool.true)))
theorem p27_0 (x0 : ByteArray × ByteArray × ByteArray × Unit) (x1 : ByteArray × ByteArray × ByteArray × Unit) : runF tab ext27 false 20 [] 2000 [] tys27 Try.f27.results [true] [.code b27] (entE 0 0 sig27 (x0, x1, ())) (entL sig27 (x0, x1, ())) = some ([Dyn.mk Ty.bool Bool.false], [], [(!ByteArray.toList (Prod.fst x0) == ByteArray.toList (Prod.fst x1)) = Bool.true]) := by kernel_rfl
theorem p27_1 (x0 : ByteArray × ByteArray × ByteArray × Unit) (x1 : ByteArray × ByteArray × ByteArray × Unit) : runF tab ext27 false 20 [] 2000 [] tys27 Try.f27.results [false, true] [.code b27] (entE 0 0 sig27 (x0, x1, ())) (entL sig27 (x0, x1, ())) = some ([Dyn.mk Ty.bool Bool.false], [], [(!ByteArray.toList (Prod.fst x0) == ByteArray.toList (Prod.fst x1)) = Bool.false, (!ByteArray.toList (Prod.fst (Prod.snd x0)) == ByteArray.toList (Prod.fst (Prod.snd x1))) = Bool.true]) := by kernel_rfl
theorem p27_2 (x0 : ByteArray × ByteArray × ByteArray × Unit) (x1 : ByteArray × ByteArray × ByteArray × Unit) : runF tab ext27 false 20 [] 2000 [] tys27 Try.f27.results [false, false, true] [.code b27] (entE 0 0 sig27 (x0, x1, ())) (entL sig27 (x0, x1, ())) = some ([Dyn.mk Ty.bool Bool.false], [], [(!ByteArray.toList (Prod.fst x0) == ByteArray.toList (Prod.fst x1)) = Bool.false, (!ByteArray.toList (Prod.fst (Prod.snd x0)) == ByteArray.toList (Prod.fst (Prod.snd x1))) = Bool.false, (!ByteArray.toList (Prod.fst (Prod.snd (Prod.snd x0))) == ByteArray.toList (Prod.fst (Prod.snd (Prod.snd x1)))) = Bool.true]) := by kernel_rfl
theorem p27_3 (x0 : ByteArray × ByteArray × ByteArray × Unit) (x1 : ByteArray × ByteArray × ByteArray × Unit) : runF tab ext27 false 20 [] 2000 [] tys27 Try.f27.results [false, false, false] [.code b27] (entE 0 0 sig27 (x0, x1, ())) (entL sig27 (x0, x1, ())) = some ([Dyn.mk Ty.bool Bool.true], [], [(!ByteArray.toList (Prod.fst x0) == ByteArray.toList (Prod.fst x1)) = Bool.false, (!ByteArray.toList (Prod.fst (Prod.snd x0)) == ByteArray.toList (Prod.fst (Prod.snd x1))) = Bool.false, (!ByteArray.toList (Prod.fst (Prod.snd (Prod.snd x0))) == ByteArray.toList (Prod.fst (Prod.snd (Prod.snd x1)))) = Bool.false]) := by kernel_rfl
theorem at27 (x0 : ByteArray × ByteArray × ByteArray × Unit) (x1 : ByteArray × ByteArray × ByteArray × Unit) (h : P27 x0 x1) (w0 : World) (O : List Nat) (q : Nat → Value) : AtV Try.prog 27 (PostR [⟨Ty.bool, g27_0 x0 x1⟩] [] [] q w0 O) 20 w0 O q [] [.code b27] (entE 0 0 sig27 (x0, x1, ())) (entL sig27 (x0, x1, ())) := by
  unfold P27 at h
  unfold g27_0
  by_cases b0 : (!ByteArray.toList (Prod.fst x0) == ByteArray.toList (Prod.fst x1)) = true
  · try simp only [if_pos b0] at h ⊢
    exact AtV.fin Try.func27 tabOk ext27Ok mixed (p27_0 x0 x1) ⟨b0, trivial⟩
  · try simp only [if_neg b0] at h ⊢
    replace b0 := Bool.eq_false_iff.2 b0
    by_cases b1 : (!ByteArray.toList (Prod.fst (Prod.snd x0)) == ByteArray.toList (Prod.fst (Prod.snd x1))) = true
    · try simp only [if_pos b1] at h ⊢
      exact AtV.fin Try.func27 tabOk ext27Ok mixed (p27_1 x0 x1) ⟨b0, b1, trivial⟩
    · try simp only [if_neg b1] at h ⊢
      replace b1 := Bool.eq_false_iff.2 b1
      by_cases b2 : (!ByteArray.toList (Prod.fst (Prod.snd (Prod.snd x0))) == ByteArray.toList (Prod.fst (Prod.snd (Prod.snd x1)))) = true
      · try simp only [if_pos b2] at h ⊢
        exact AtV.fin Try.func27 tabOk ext27Ok mixed (p27_2 x0 x1) ⟨b0, b1, b2, trivial⟩
      · try simp only [if_neg b2] at h ⊢
        replace b2 := Bool.eq_false_iff.2 b2
        exact AtV.fin Try.func27 tabOk ext27Ok mixed (p27_3 x0 x1) ⟨b0, b1, b2, trivial⟩

def S27 : Am.Spec := { sig := sig27, pre := fun ⟨x0, x1, _⟩ => P27 x0 x1, res := fun ⟨x0, x1, _⟩ => [⟨Ty.bool, g27_0 x0 x1⟩] }
theorem con27 : Contract Try.prog 27 S27 := contract_of Try.func27 hb27 (Nat.le_of_ble_eq_true (by kernel_rfl)) (fun ⟨x0, x1, _⟩ h _ w0 O q => at27 x0 x1 h w0 O q)


theorem eqd27 (x y : ByteArray × ByteArray × ByteArray × Unit) : g27_0 x y = true ↔ x = y := by
  obtain ⟨a, b, c, u⟩ := x
  obtain ⟨a', b', c', u'⟩ := y
  unfold g27_0
  simp only [Bool.not_eq_true', bytes_ne]
  by_cases h1 : a = a'
  · by_cases h2 : b = b'
    · by_cases h3 : c = c'
      · simp [h1, h2, h3]
      · simp [h1, h2, h3]
    · simp [h1, h2]
  · simp [h1]

end Go.Proofs.Ytakodkjcmacofaa

/- Function 9 (laws.eqBlockS): its runs between cut points. Written by a program of this repo (gen). -/
set_option linter.unusedVariables false
set_option linter.unusedSimpArgs false
set_option maxRecDepth 100000
namespace Go.Proofs.Ytakodkjcmacofaa
open Go Go.Am Go.Proofs
def ext9 : Ext := [(27, S27)]
theorem call9_27 : Callable Try.prog 27 := ⟨Try.f27, Try.func27, by kernel_rfl, by kernel_rfl⟩
theorem ext9Ok : ExtOk Try.prog ext9 := ⟨⟨call9_27, con27⟩, trivial⟩
/-! Function 9. -/
noncomputable def b9 : Code := bodyOf Try.f9
theorem hb9 : Try.f9.body = some b9 := by kernel_rfl
def sig9 : List AT := [AT.v (Ty.sl (Ty.cons Ty.str (Ty.cons Ty.str (Ty.cons Ty.str Ty.unit)))), AT.v (Ty.sl (Ty.cons Ty.str (Ty.cons Ty.str (Ty.cons Ty.str Ty.unit))))]
def tys9 : List Ty := [Ty.bool]
def E9_4 (v5 : Int) (x0 : List (ByteArray × ByteArray × ByteArray × Unit)) (x1 : List (ByteArray × ByteArray × ByteArray × Unit)) : Env := [(0, PV.a (Atom.sl (Ty.cons Ty.str (Ty.cons Ty.str (Ty.cons Ty.str Ty.unit))) x0)), (1, PV.a (Atom.sl (Ty.cons Ty.str (Ty.cons Ty.str (Ty.cons Ty.str Ty.unit))) x1)), (5, PV.a (Atom.val (Value.int IntKind.i64 v5)))]
def L9_4 (v5 : Int) (x0 : List (ByteArray × ByteArray × ByteArray × Unit)) (x1 : List (ByteArray × ByteArray × ByteArray × Unit)) : Heap := []
mutual
def R9 : Nat → List (ByteArray × ByteArray × ByteArray × Unit) → List (ByteArray × ByteArray × ByteArray × Unit) → List Dyn → Prop
  | 0, _, _, _ => False
  | n + 1, x0, x1, ds => (if ((↑(List.length x0) : Int) != (↑(List.length x1) : Int)) = true then (ds = [Dyn.mk Ty.bool Bool.false]) else (R9_4 n (0) (x0) (x1) ds))
def R9_4 : Nat → Int → List (ByteArray × ByteArray × ByteArray × Unit) → List (ByteArray × ByteArray × ByteArray × Unit) → List Dyn → Prop
  | 0, _, _, _, _ => False
  | n + 1, v5, x0, x1, ds => (if (Decidable.decide (v5 < (↑(List.length x0) : Int))) = true then ((0 ≤ v5) ∧ (v5 < (↑(List.length x0) : Int)) ∧ ((0 ≤ v5) ∧ (v5 < (↑(List.length x1) : Int)) ∧ (if (!g27_0 (List.getD x0 (Int.toNat v5) (ByteArray.empty, ByteArray.empty, ByteArray.empty, ())) (List.getD x1 (Int.toNat v5) (ByteArray.empty, ByteArray.empty, ByteArray.empty, ()))) = true then (ds = [Dyn.mk Ty.bool Bool.false]) else ((InR IntKind.i64 (v5 + 1)) ∧ (R9_4 n (v5 + 1) (x0) (x1) ds))))) else (ds = [Dyn.mk Ty.bool Bool.true]))
end
theorem p9_0 (x0 : List (ByteArray × ByteArray × ByteArray × Unit)) (x1 : List (ByteArray × ByteArray × ByteArray × Unit)) : runF tab ext9 false 27 [] 2000 [] tys9 Try.f9.results [true] [.code b9] (entE 0 0 sig9 (x0, x1, ())) (entL sig9 (x0, x1, ())) = some ([Dyn.mk Ty.bool Bool.false], [], [((↑(List.length x0) : Int) != (↑(List.length x1) : Int)) = Bool.true]) := by kernel_rfl
theorem p9_1 (x0 : List (ByteArray × ByteArray × ByteArray × Unit)) (x1 : List (ByteArray × ByteArray × ByteArray × Unit)) : Am.runN tab ext9 false 27 [] 2000 [] [] [0, 1, 5] [] [false] [.code b9] (entE 0 0 sig9 (x0, x1, ())) (entL sig9 (x0, x1, ())) = some (cutAt b9 4, E9_4 (0) (x0) (x1), L9_4 (0) (x0) (x1), [((↑(List.length x0) : Int) != (↑(List.length x1) : Int)) = Bool.false]) := by kernel_rfl
theorem p9_2 (v5 : Int) (x0 : List (ByteArray × ByteArray × ByteArray × Unit)) (x1 : List (ByteArray × ByteArray × ByteArray × Unit)) : runF tab ext9 false 27 [] 2000 [] tys9 Try.f9.results [true, true] (cutAt b9 4) (E9_4 v5 x0 x1) (L9_4 v5 x0 x1) = some ([Dyn.mk Ty.bool Bool.false], [], [Decidable.decide (v5 < (↑(List.length x0) : Int)) = Bool.true, 0 ≤ v5, v5 < (↑(List.length x0) : Int), 0 ≤ v5, v5 < (↑(List.length x1) : Int), True, (!g27_0 (List.getD x0 (Int.toNat v5) (ByteArray.empty, ByteArray.empty, ByteArray.empty, ())) (List.getD x1 (Int.toNat v5) (ByteArray.empty, ByteArray.empty, ByteArray.empty, ()))) = Bool.true]) := by kernel_rfl
theorem p9_3 (v5 : Int) (x0 : List (ByteArray × ByteArray × ByteArray × Unit)) (x1 : List (ByteArray × ByteArray × ByteArray × Unit)) : Am.runN tab ext9 false 27 [] 2000 [] [] [0, 1, 5] [] [true, false] (cutAt b9 4) (E9_4 v5 x0 x1) (L9_4 v5 x0 x1) = some (cutAt b9 4, E9_4 (v5 + 1) (x0) (x1), L9_4 (v5 + 1) (x0) (x1), [Decidable.decide (v5 < (↑(List.length x0) : Int)) = Bool.true, 0 ≤ v5, v5 < (↑(List.length x0) : Int), 0 ≤ v5, v5 < (↑(List.length x1) : Int), True, (!g27_0 (List.getD x0 (Int.toNat v5) (ByteArray.empty, ByteArray.empty, ByteArray.empty, ())) (List.getD x1 (Int.toNat v5) (ByteArray.empty, ByteArray.empty, ByteArray.empty, ()))) = Bool.false, InR IntKind.i64 (v5 + 1)]) := by kernel_rfl
theorem p9_4 (v5 : Int) (x0 : List (ByteArray × ByteArray × ByteArray × Unit)) (x1 : List (ByteArray × ByteArray × ByteArray × Unit)) : runF tab ext9 false 27 [] 2000 [] tys9 Try.f9.results [false] (cutAt b9 4) (E9_4 v5 x0 x1) (L9_4 v5 x0 x1) = some ([Dyn.mk Ty.bool Bool.true], [], [Decidable.decide (v5 < (↑(List.length x0) : Int)) = Bool.false]) := by kernel_rfl
theorem snd9 : ∀ n, (∀ (x0 : List (ByteArray × ByteArray × ByteArray × Unit)) (x1 : List (ByteArray × ByteArray × ByteArray × Unit)) ds, R9 n x0 x1 ds → ∀ w0 O q, AtV Try.prog 9 (PostR ds [] [] q w0 O) 27 w0 O q [] [.code b9] (entE 0 0 sig9 (x0, x1, ())) (entL sig9 (x0, x1, ()))) ∧ (∀ (v5 : Int) (x0 : List (ByteArray × ByteArray × ByteArray × Unit)) (x1 : List (ByteArray × ByteArray × ByteArray × Unit)) ds, R9_4 n v5 x0 x1 ds → ∀ w0 O q, AtV Try.prog 9 (PostR ds [] [] q w0 O) 27 w0 O q [] (cutAt b9 4) (E9_4 v5 x0 x1) (L9_4 v5 x0 x1)) := by
  intro n
  induction n with
  | zero => exact ⟨fun _ _ _ h => by simp only [R9] at h, fun _ _ _ _ h => by simp only [R9_4] at h⟩
  | succ n ih =>
  obtain ⟨ih, ih4⟩ := ih
  refine ⟨?_, ?_⟩
  · intro x0 x1 ds h w0 O q
    rw [R9] at h
    by_cases b0 : ((↑(List.length x0) : Int) != (↑(List.length x1) : Int)) = true
    · rw [if_pos b0] at h
      subst h
      exact AtV.fin Try.func9 tabOk ext9Ok mixed (p9_0 x0 x1) ⟨b0, trivial⟩
    · rw [if_neg b0] at h
      replace b0 := Bool.eq_false_iff.2 b0
      exact AtV.runN tabOk ext9Ok mixed (p9_1 x0 x1) ⟨b0, trivial⟩ (ih4 _ _ _ _ h w0 O q)

  · intro v5 x0 x1 ds h w0 O q
    rw [R9_4] at h
    by_cases b0 : (Decidable.decide (v5 < (↑(List.length x0) : Int))) = true
    · rw [if_pos b0] at h
      obtain ⟨s0, s1, h⟩ := h
      obtain ⟨s2, s3, h⟩ := h
      by_cases b1 : (!g27_0 (List.getD x0 (Int.toNat v5) (ByteArray.empty, ByteArray.empty, ByteArray.empty, ())) (List.getD x1 (Int.toNat v5) (ByteArray.empty, ByteArray.empty, ByteArray.empty, ()))) = true
      · rw [if_pos b1] at h
        subst h
        exact AtV.fin Try.func9 tabOk ext9Ok mixed (p9_2 v5 x0 x1) ⟨b0, s0, s1, s2, s3, trivial, b1, trivial⟩
      · rw [if_neg b1] at h
        replace b1 := Bool.eq_false_iff.2 b1
        obtain ⟨s4, h⟩ := h
        exact AtV.runN tabOk ext9Ok mixed (p9_3 v5 x0 x1) ⟨b0, s0, s1, s2, s3, trivial, b1, s4, trivial⟩ (ih4 _ _ _ _ h w0 O q)
    · rw [if_neg b0] at h
      replace b0 := Bool.eq_false_iff.2 b0
      subst h
      exact AtV.fin Try.func9 tabOk ext9Ok mixed (p9_4 v5 x0 x1) ⟨b0, trivial⟩



theorem eq9 (x0 x1 : List (ByteArray × ByteArray × ByteArray × Unit)) (hl : x0.length = x1.length) (hm : x0.length ≤ maxLen) : ∀ k i : Nat, i + k = x0.length → R9_4 (k + 1) (i : Int) x0 x1 [⟨.bool, decide (x0.drop i = x1.drop i)⟩] := by
  intro k
  induction k with
  | zero =>
    intro i hi
    have h1 : ¬ (i : Int) < (x0.length : Int) := by omega
    rw [R9_4, if_neg (by simpa using h1), drop_end x0 i (by omega), drop_end x1 i (by omega)]
    simp
  | succ k ih =>
    intro i hi
    have h1 : (i : Int) < (x0.length : Int) := by omega
    rw [R9_4, if_pos (by simpa using h1)]
    refine ⟨by omega, h1, by omega, by omega, ?_⟩
    simp only [Int.toNat_natCast]
    rw [drop_get x0 i (ByteArray.empty, ByteArray.empty, ByteArray.empty, ()) (by omega), drop_get x1 i (ByteArray.empty, ByteArray.empty, ByteArray.empty, ()) (by omega)]
    by_cases he : x0.getD i (ByteArray.empty, ByteArray.empty, ByteArray.empty, ()) = x1.getD i (ByteArray.empty, ByteArray.empty, ByteArray.empty, ())
    · have hd := (eqd27 _ _).2 he
      rw [if_neg (by rw [hd]; simp)]
      refine ⟨inR_up hm (by omega), ?_⟩
      have := ih (i + 1) (by omega)
      simp only [he, List.cons.injEq, true_and]
      exact this
    · have hd : g27_0 (x0.getD i (ByteArray.empty, ByteArray.empty, ByteArray.empty, ())) (x1.getD i (ByteArray.empty, ByteArray.empty, ByteArray.empty, ())) = false :=
        Bool.eq_false_iff.2 fun h => he ((eqd27 _ _).1 h)
      rw [if_pos (by rw [hd]; rfl)]
      simp only [he, List.cons.injEq, false_and, decide_false]

def g9_0 (x0 x1 : List (ByteArray × ByteArray × ByteArray × Unit)) : Bool := decide (x0 = x1)
def P9 (x0 x1 : List (ByteArray × ByteArray × ByteArray × Unit)) : Prop := True
def S9 : Am.Spec := { sig := sig9, pre := fun ⟨x0, x1, _⟩ => P9 x0 x1, res := fun ⟨x0, x1, _⟩ => [⟨Ty.bool, g9_0 x0 x1⟩] }
theorem con9 : Contract Try.prog 9 S9 := contract_of Try.func9 hb9 (Nat.le_of_ble_eq_true (by kernel_rfl)) (fun ⟨x0, x1, _⟩ h hwf w0 O q => by
  refine (snd9 (x0.length + 2)).1 x0 x1 _ ?_ w0 O q
  show R9 (x0.length + 1 + 1) x0 x1 [⟨Ty.bool, decide (x0 = x1)⟩]
  rw [R9]
  by_cases hl : x0.length = x1.length
  · rw [if_neg (by simp [hl])]
    have := eq9 x0 x1 hl hwf.1.1 x0.length 0 (by omega)
    simpa using this
  · rw [if_pos (by simp; omega)]
    have : x0 ≠ x1 := fun h => hl (by rw [h])
    simp [this])

end Go.Proofs.Ytakodkjcmacofaa
