/- Several texts in one: the functions that this law reaches, and their laws. -/
import Derived.Test.YtjkeinpcphkfbaaZ13A
import Derived.Test.YtjkeinpcphkfbaaZ13B
import Derived.Shelf.Strings.Builder1
import Derived.Shelf.Strings.Builder2
import Derived.Shelf.Strconv.Itoa0
import Derived.Shelf.Strings.Search1
import Derived.Shelf.Strings.Search2
import Derived.Shelf.Strings.Search3
import Derived.Shelf.LaysM
import Derived.Shelf.Strings.Shaped
import Derived.Shelf.Strings.Prefix
import Derived.Shelf.Bits.Mul64
import Derived.Lib.SliceRun
import Derived.Laws.AppendOwn
import Derived.WalkKit
import Derived.Deep.LoopGhost
import Derived.Lib.Walk
import Derived.Shelf.RegionOpenPlain
import Derived.Deep.RegionLaw
import Derived.Deep.AppendSrc
import Derived.Lib.JoinLaws
import Derived.Lib.AppendZeros
import Derived.Lib.AppendZerosOnto
import Derived.Lib.Overlaps
import Derived.Laws.Externs
import Derived.Laws.IdiomCopy

/- Function 59 (laws.szBlock): its runs between cut points. Written by a program of this repo (gen). -/
set_option linter.unusedVariables false
set_option linter.unusedSimpArgs false
set_option maxRecDepth 100000
namespace Go.Proofs.Ytjkeinpcphkfbaa
open Go Go.Am Go.Proofs
def ext59 : Ext := []
theorem ext59Ok : ExtOk Try.prog ext59 := trivial
/-! Function 59. -/
noncomputable def b59 : Code := bodyOf Try.f59
theorem hb59 : Try.f59.body = some b59 := by kernel_rfl
def sig59 : List AT := [AT.v (Ty.cons Ty.str (Ty.cons Ty.str (Ty.cons Ty.str Ty.unit))), AT.v (Ty.int IntKind.i64)]
def tys59 : List Ty := [Ty.int IntKind.i64]
def P59 (x0 : ByteArray × ByteArray × ByteArray × Unit) (x1 : Int) : Prop := ((InR IntKind.i64 (x1 - (↑(ByteArray.size (Prod.fst x0)) : Int))) ∧ (if (Decidable.decide (x1 - (↑(ByteArray.size (Prod.fst x0)) : Int) < 0)) = true then True else ((InR IntKind.i64 (x1 - (↑(ByteArray.size (Prod.fst x0)) : Int) - (↑(ByteArray.size (Prod.fst (Prod.snd x0))) : Int))) ∧ (if (Decidable.decide (x1 - (↑(ByteArray.size (Prod.fst x0)) : Int) - (↑(ByteArray.size (Prod.fst (Prod.snd x0))) : Int) < 0)) = true then True else ((InR IntKind.i64 (x1 - (↑(ByteArray.size (Prod.fst x0)) : Int) - (↑(ByteArray.size (Prod.fst (Prod.snd x0))) : Int) - (↑(ByteArray.size (Prod.fst (Prod.snd (Prod.snd x0)))) : Int))) ∧ True)))))
def g59_0 (x0 : ByteArray × ByteArray × ByteArray × Unit) (x1 : Int) : Int := (if (Decidable.decide (x1 - (↑(ByteArray.size (Prod.fst x0)) : Int) < 0)) = true then -1 else (if (Decidable.decide (x1 - (↑(ByteArray.size (Prod.fst x0)) : Int) - (↑(ByteArray.size (Prod.fst (Prod.snd x0))) : Int) < 0)) = true then -1 else (if (Decidable.decide (x1 - (↑(ByteArray.size (Prod.fst x0)) : Int) - (↑(ByteArray.size (Prod.fst (Prod.snd x0))) : Int) - (↑(ByteArray.size (Prod.fst (Prod.snd (Prod.snd x0)))) : Int) < 0)) = true then -1 else x1 - (↑(ByteArray.size (Prod.fst x0)) : Int) - (↑(ByteArray.size (Prod.fst (Prod.snd x0))) : Int) - (↑(ByteArray.size (Prod.fst (Prod.snd (Prod.snd x0)))) : Int))))
theorem p59_0 (x0 : ByteArray × ByteArray × ByteArray × Unit) (x1 : Int) : runF tab ext59 false 27 [] 2000 [] tys59 Try.f59.results [true] [.code b59] (entE 0 0 sig59 (x0, x1, ())) (entL sig59 (x0, x1, ())) = some ([Dyn.mk (Ty.int IntKind.i64) (-1)], [], [InR IntKind.i64 (x1 - (↑(ByteArray.size (Prod.fst x0)) : Int)), Decidable.decide (x1 - (↑(ByteArray.size (Prod.fst x0)) : Int) < 0) = Bool.true]) := by kernel_rfl
theorem p59_1 (x0 : ByteArray × ByteArray × ByteArray × Unit) (x1 : Int) : runF tab ext59 false 27 [] 2000 [] tys59 Try.f59.results [false, true] [.code b59] (entE 0 0 sig59 (x0, x1, ())) (entL sig59 (x0, x1, ())) = some ([Dyn.mk (Ty.int IntKind.i64) (-1)], [], [InR IntKind.i64 (x1 - (↑(ByteArray.size (Prod.fst x0)) : Int)), Decidable.decide (x1 - (↑(ByteArray.size (Prod.fst x0)) : Int) < 0) = Bool.false, InR IntKind.i64 (x1 - (↑(ByteArray.size (Prod.fst x0)) : Int) - (↑(ByteArray.size (Prod.fst (Prod.snd x0))) : Int)), Decidable.decide (x1 - (↑(ByteArray.size (Prod.fst x0)) : Int) - (↑(ByteArray.size (Prod.fst (Prod.snd x0))) : Int) < 0) = Bool.true]) := by kernel_rfl
theorem p59_2 (x0 : ByteArray × ByteArray × ByteArray × Unit) (x1 : Int) : runF tab ext59 false 27 [] 2000 [] tys59 Try.f59.results [false, false, true] [.code b59] (entE 0 0 sig59 (x0, x1, ())) (entL sig59 (x0, x1, ())) = some ([Dyn.mk (Ty.int IntKind.i64) (-1)], [], [InR IntKind.i64 (x1 - (↑(ByteArray.size (Prod.fst x0)) : Int)), Decidable.decide (x1 - (↑(ByteArray.size (Prod.fst x0)) : Int) < 0) = Bool.false, InR IntKind.i64 (x1 - (↑(ByteArray.size (Prod.fst x0)) : Int) - (↑(ByteArray.size (Prod.fst (Prod.snd x0))) : Int)), Decidable.decide (x1 - (↑(ByteArray.size (Prod.fst x0)) : Int) - (↑(ByteArray.size (Prod.fst (Prod.snd x0))) : Int) < 0) = Bool.false, InR IntKind.i64 (x1 - (↑(ByteArray.size (Prod.fst x0)) : Int) - (↑(ByteArray.size (Prod.fst (Prod.snd x0))) : Int) - (↑(ByteArray.size (Prod.fst (Prod.snd (Prod.snd x0)))) : Int)), Decidable.decide (x1 - (↑(ByteArray.size (Prod.fst x0)) : Int) - (↑(ByteArray.size (Prod.fst (Prod.snd x0))) : Int) - (↑(ByteArray.size (Prod.fst (Prod.snd (Prod.snd x0)))) : Int) < 0) = Bool.true]) := by kernel_rfl
theorem p59_3 (x0 : ByteArray × ByteArray × ByteArray × Unit) (x1 : Int) : runF tab ext59 false 27 [] 2000 [] tys59 Try.f59.results [false, false, false] [.code b59] (entE 0 0 sig59 (x0, x1, ())) (entL sig59 (x0, x1, ())) = some ([Dyn.mk (Ty.int IntKind.i64) (x1 - (↑(ByteArray.size (Prod.fst x0)) : Int) - (↑(ByteArray.size (Prod.fst (Prod.snd x0))) : Int) - (↑(ByteArray.size (Prod.fst (Prod.snd (Prod.snd x0)))) : Int))], [], [InR IntKind.i64 (x1 - (↑(ByteArray.size (Prod.fst x0)) : Int)), Decidable.decide (x1 - (↑(ByteArray.size (Prod.fst x0)) : Int) < 0) = Bool.false, InR IntKind.i64 (x1 - (↑(ByteArray.size (Prod.fst x0)) : Int) - (↑(ByteArray.size (Prod.fst (Prod.snd x0))) : Int)), Decidable.decide (x1 - (↑(ByteArray.size (Prod.fst x0)) : Int) - (↑(ByteArray.size (Prod.fst (Prod.snd x0))) : Int) < 0) = Bool.false, InR IntKind.i64 (x1 - (↑(ByteArray.size (Prod.fst x0)) : Int) - (↑(ByteArray.size (Prod.fst (Prod.snd x0))) : Int) - (↑(ByteArray.size (Prod.fst (Prod.snd (Prod.snd x0)))) : Int)), Decidable.decide (x1 - (↑(ByteArray.size (Prod.fst x0)) : Int) - (↑(ByteArray.size (Prod.fst (Prod.snd x0))) : Int) - (↑(ByteArray.size (Prod.fst (Prod.snd (Prod.snd x0)))) : Int) < 0) = Bool.false]) := by kernel_rfl
theorem at59 (x0 : ByteArray × ByteArray × ByteArray × Unit) (x1 : Int) (h : P59 x0 x1) (w0 : World) (O : List Nat) (q : Nat → Value) : AtV Try.prog 59 (PostR [⟨Ty.int IntKind.i64, g59_0 x0 x1⟩] [] [] q w0 O) 27 w0 O q [] [.code b59] (entE 0 0 sig59 (x0, x1, ())) (entL sig59 (x0, x1, ())) := by
  unfold P59 at h
  unfold g59_0
  obtain ⟨s0, h⟩ := h
  by_cases b0 : (Decidable.decide (x1 - (↑(ByteArray.size (Prod.fst x0)) : Int) < 0)) = true
  · try simp only [if_pos b0] at h ⊢
    exact AtV.fin Try.func59 tabOk ext59Ok mixed (p59_0 x0 x1) ⟨s0, b0, trivial⟩
  · try simp only [if_neg b0] at h ⊢
    replace b0 := Bool.eq_false_iff.2 b0
    obtain ⟨s1, h⟩ := h
    by_cases b1 : (Decidable.decide (x1 - (↑(ByteArray.size (Prod.fst x0)) : Int) - (↑(ByteArray.size (Prod.fst (Prod.snd x0))) : Int) < 0)) = true
    · try simp only [if_pos b1] at h ⊢
      exact AtV.fin Try.func59 tabOk ext59Ok mixed (p59_1 x0 x1) ⟨s0, b0, s1, b1, trivial⟩
    · try simp only [if_neg b1] at h ⊢
      replace b1 := Bool.eq_false_iff.2 b1
      obtain ⟨s2, h⟩ := h
      by_cases b2 : (Decidable.decide (x1 - (↑(ByteArray.size (Prod.fst x0)) : Int) - (↑(ByteArray.size (Prod.fst (Prod.snd x0))) : Int) - (↑(ByteArray.size (Prod.fst (Prod.snd (Prod.snd x0)))) : Int) < 0)) = true
      · try simp only [if_pos b2] at h ⊢
        exact AtV.fin Try.func59 tabOk ext59Ok mixed (p59_2 x0 x1) ⟨s0, b0, s1, b1, s2, b2, trivial⟩
      · try simp only [if_neg b2] at h ⊢
        replace b2 := Bool.eq_false_iff.2 b2
        exact AtV.fin Try.func59 tabOk ext59Ok mixed (p59_3 x0 x1) ⟨s0, b0, s1, b1, s2, b2, trivial⟩

def S59 : Am.Spec := { sig := sig59, pre := fun ⟨x0, x1, _⟩ => P59 x0 x1, res := fun ⟨x0, x1, _⟩ => [⟨Ty.int IntKind.i64, g59_0 x0 x1⟩] }
theorem con59 : Contract Try.prog 59 S59 := contract_of Try.func59 hb59 (Nat.le_of_ble_eq_true (by kernel_rfl)) (fun ⟨x0, x1, _⟩ h _ w0 O q => at59 x0 x1 h w0 O q)


theorem sz59 (x0 : ByteArray × ByteArray × ByteArray × Unit) (x1 : Int) (h : 0 ≤ x1) (hi : InR .i64 x1) (hw : Wf (.cons .str (.cons .str (.cons .str .unit))) x0) :
    P59 x0 x1 ∧ -1 ≤ g59_0 x0 x1 ∧ g59_0 x0 x1 ≤ x1 := by
  have h1 : x0.1.size ≤ 9223372036854775807 := hw.1
  have h2 : x0.2.1.size ≤ 9223372036854775807 := hw.2.1
  have h3 : x0.2.2.1.size ≤ 9223372036854775807 := hw.2.2.1
  rw [i64_iff] at hi
  unfold P59 g59_0
  simp only [decide_eq_true_eq, i64_iff]
  repeat' (first | apply And.intro | split)
  all_goals first | trivial | omega

end Go.Proofs.Ytjkeinpcphkfbaa

/- Function 34 (laws.szBlockS): its runs between cut points. Written by a program of this repo (gen). -/
set_option linter.unusedVariables false
set_option linter.unusedSimpArgs false
set_option maxRecDepth 100000
namespace Go.Proofs.Ytjkeinpcphkfbaa
open Go Go.Am Go.Proofs
def ext34 : Ext := [(59, S59)]
theorem call34_59 : Callable Try.prog 59 := ⟨Try.f59, Try.func59, by kernel_rfl, by kernel_rfl⟩
theorem ext34Ok : ExtOk Try.prog ext34 := ⟨⟨call34_59, con59⟩, trivial⟩
/-! Function 34. -/
noncomputable def b34 : Code := bodyOf Try.f34
theorem hb34 : Try.f34.body = some b34 := by kernel_rfl
def sig34 : List AT := [AT.v (Ty.sl (Ty.cons Ty.str (Ty.cons Ty.str (Ty.cons Ty.str Ty.unit)))), AT.v (Ty.int IntKind.i64)]
def tys34 : List Ty := [Ty.int IntKind.i64]
def E34_5 (v1 : Int) (v5 : Int) (x0 : List (ByteArray × ByteArray × ByteArray × Unit)) : Env := [(0, PV.a (Atom.sl (Ty.cons Ty.str (Ty.cons Ty.str (Ty.cons Ty.str Ty.unit))) x0)), (1, PV.a (Atom.val (Value.int IntKind.i64 v1))), (5, PV.a (Atom.val (Value.int IntKind.i64 v5)))]
def L34_5 (v1 : Int) (v5 : Int) (x0 : List (ByteArray × ByteArray × ByteArray × Unit)) : Heap := []
mutual
def R34 : Nat → List (ByteArray × ByteArray × ByteArray × Unit) → Int → List Dyn → Prop
  | 0, _, _, _ => False
  | n + 1, x0, x1, ds => ((InR IntKind.i64 (x1 - (↑(List.length x0) : Int))) ∧ (if (Decidable.decide (x1 - (↑(List.length x0) : Int) < 0)) = true then (ds = [Dyn.mk (Ty.int IntKind.i64) (-1)]) else (R34_5 n (x1 - (↑(List.length x0) : Int)) (0) (x0) ds)))
def R34_5 : Nat → Int → Int → List (ByteArray × ByteArray × ByteArray × Unit) → List Dyn → Prop
  | 0, _, _, _, _ => False
  | n + 1, v1, v5, x0, ds => (if (Decidable.decide (v5 < (↑(List.length x0) : Int))) = true then ((0 ≤ v5) ∧ (v5 < (↑(List.length x0) : Int)) ∧ ((P59 (List.getD x0 (Int.toNat v5) (ByteArray.empty, ByteArray.empty, ByteArray.empty, ())) v1) ∧ (if (Decidable.decide (g59_0 (List.getD x0 (Int.toNat v5) (ByteArray.empty, ByteArray.empty, ByteArray.empty, ())) v1 < 0)) = true then (ds = [Dyn.mk (Ty.int IntKind.i64) (-1)]) else ((InR IntKind.i64 (v5 + 1)) ∧ (R34_5 n (g59_0 (List.getD x0 (Int.toNat v5) (ByteArray.empty, ByteArray.empty, ByteArray.empty, ())) v1) (v5 + 1) (x0) ds))))) else (ds = [Dyn.mk (Ty.int IntKind.i64) v1]))
end
theorem p34_0 (x0 : List (ByteArray × ByteArray × ByteArray × Unit)) (x1 : Int) : runF tab ext34 false 27 [] 2000 [] tys34 Try.f34.results [true] [.code b34] (entE 0 0 sig34 (x0, x1, ())) (entL sig34 (x0, x1, ())) = some ([Dyn.mk (Ty.int IntKind.i64) (-1)], [], [InR IntKind.i64 (x1 - (↑(List.length x0) : Int)), Decidable.decide (x1 - (↑(List.length x0) : Int) < 0) = Bool.true]) := by kernel_rfl
theorem p34_1 (x0 : List (ByteArray × ByteArray × ByteArray × Unit)) (x1 : Int) : Am.runN tab ext34 false 27 [] 2000 [] [] [0, 1, 5] [] [false] [.code b34] (entE 0 0 sig34 (x0, x1, ())) (entL sig34 (x0, x1, ())) = some (cutAt b34 5, E34_5 (x1 - (↑(List.length x0) : Int)) (0) (x0), L34_5 (x1 - (↑(List.length x0) : Int)) (0) (x0), [InR IntKind.i64 (x1 - (↑(List.length x0) : Int)), Decidable.decide (x1 - (↑(List.length x0) : Int) < 0) = Bool.false]) := by kernel_rfl
theorem p34_2 (v1 : Int) (v5 : Int) (x0 : List (ByteArray × ByteArray × ByteArray × Unit)) : runF tab ext34 false 27 [] 2000 [] tys34 Try.f34.results [true, true] (cutAt b34 5) (E34_5 v1 v5 x0) (L34_5 v1 v5 x0) = some ([Dyn.mk (Ty.int IntKind.i64) (-1)], [], [Decidable.decide (v5 < (↑(List.length x0) : Int)) = Bool.true, 0 ≤ v5, v5 < (↑(List.length x0) : Int), P59 (List.getD x0 (Int.toNat v5) (ByteArray.empty, ByteArray.empty, ByteArray.empty, ())) v1, Decidable.decide (g59_0 (List.getD x0 (Int.toNat v5) (ByteArray.empty, ByteArray.empty, ByteArray.empty, ())) v1 < 0) = Bool.true]) := by kernel_rfl
theorem p34_3 (v1 : Int) (v5 : Int) (x0 : List (ByteArray × ByteArray × ByteArray × Unit)) : Am.runN tab ext34 false 27 [] 2000 [] [] [0, 1, 5] [] [true, false] (cutAt b34 5) (E34_5 v1 v5 x0) (L34_5 v1 v5 x0) = some (cutAt b34 5, E34_5 (g59_0 (List.getD x0 (Int.toNat v5) (ByteArray.empty, ByteArray.empty, ByteArray.empty, ())) v1) (v5 + 1) (x0), L34_5 (g59_0 (List.getD x0 (Int.toNat v5) (ByteArray.empty, ByteArray.empty, ByteArray.empty, ())) v1) (v5 + 1) (x0), [Decidable.decide (v5 < (↑(List.length x0) : Int)) = Bool.true, 0 ≤ v5, v5 < (↑(List.length x0) : Int), P59 (List.getD x0 (Int.toNat v5) (ByteArray.empty, ByteArray.empty, ByteArray.empty, ())) v1, Decidable.decide (g59_0 (List.getD x0 (Int.toNat v5) (ByteArray.empty, ByteArray.empty, ByteArray.empty, ())) v1 < 0) = Bool.false, InR IntKind.i64 (v5 + 1)]) := by kernel_rfl
theorem p34_4 (v1 : Int) (v5 : Int) (x0 : List (ByteArray × ByteArray × ByteArray × Unit)) : runF tab ext34 false 27 [] 2000 [] tys34 Try.f34.results [false] (cutAt b34 5) (E34_5 v1 v5 x0) (L34_5 v1 v5 x0) = some ([Dyn.mk (Ty.int IntKind.i64) v1], [], [Decidable.decide (v5 < (↑(List.length x0) : Int)) = Bool.false]) := by kernel_rfl
theorem snd34 : ∀ n, (∀ (x0 : List (ByteArray × ByteArray × ByteArray × Unit)) (x1 : Int) ds, R34 n x0 x1 ds → ∀ w0 O q, AtV Try.prog 34 (PostR ds [] [] q w0 O) 27 w0 O q [] [.code b34] (entE 0 0 sig34 (x0, x1, ())) (entL sig34 (x0, x1, ()))) ∧ (∀ (v1 : Int) (v5 : Int) (x0 : List (ByteArray × ByteArray × ByteArray × Unit)) ds, R34_5 n v1 v5 x0 ds → ∀ w0 O q, AtV Try.prog 34 (PostR ds [] [] q w0 O) 27 w0 O q [] (cutAt b34 5) (E34_5 v1 v5 x0) (L34_5 v1 v5 x0)) := by
  intro n
  induction n with
  | zero => exact ⟨fun _ _ _ h => by simp only [R34] at h, fun _ _ _ _ h => by simp only [R34_5] at h⟩
  | succ n ih =>
  obtain ⟨ih, ih5⟩ := ih
  refine ⟨?_, ?_⟩
  · intro x0 x1 ds h w0 O q
    rw [R34] at h
    obtain ⟨s0, h⟩ := h
    by_cases b0 : (Decidable.decide (x1 - (↑(List.length x0) : Int) < 0)) = true
    · rw [if_pos b0] at h
      subst h
      exact AtV.fin Try.func34 tabOk ext34Ok mixed (p34_0 x0 x1) ⟨s0, b0, trivial⟩
    · rw [if_neg b0] at h
      replace b0 := Bool.eq_false_iff.2 b0
      exact AtV.runN tabOk ext34Ok mixed (p34_1 x0 x1) ⟨s0, b0, trivial⟩ (ih5 _ _ _ _ h w0 O q)

  · intro v1 v5 x0 ds h w0 O q
    rw [R34_5] at h
    by_cases b0 : (Decidable.decide (v5 < (↑(List.length x0) : Int))) = true
    · rw [if_pos b0] at h
      obtain ⟨s0, s1, h⟩ := h
      obtain ⟨s2, h⟩ := h
      by_cases b1 : (Decidable.decide (g59_0 (List.getD x0 (Int.toNat v5) (ByteArray.empty, ByteArray.empty, ByteArray.empty, ())) v1 < 0)) = true
      · rw [if_pos b1] at h
        subst h
        exact AtV.fin Try.func34 tabOk ext34Ok mixed (p34_2 v1 v5 x0) ⟨b0, s0, s1, s2, b1, trivial⟩
      · rw [if_neg b1] at h
        replace b1 := Bool.eq_false_iff.2 b1
        obtain ⟨s3, h⟩ := h
        exact AtV.runN tabOk ext34Ok mixed (p34_3 v1 v5 x0) ⟨b0, s0, s1, s2, b1, s3, trivial⟩ (ih5 _ _ _ _ h w0 O q)
    · rw [if_neg b0] at h
      replace b0 := Bool.eq_false_iff.2 b0
      subst h
      exact AtV.fin Try.func34 tabOk ext34Ok mixed (p34_4 v1 v5 x0) ⟨b0, trivial⟩



def szL34 : List (ByteArray × ByteArray × ByteArray × Unit) → Int → Int
  | [], l => l
  | x :: r, l => if g59_0 x l < 0 then -1 else szL34 r (g59_0 x l)

theorem szL34_ok : ∀ (x0 : List (ByteArray × ByteArray × ByteArray × Unit)) (l : Int), 0 ≤ l → InR .i64 l → (∀ x ∈ x0, Wf (.cons .str (.cons .str (.cons .str .unit))) x) → szL34 x0 l ≤ l
  | [], l, _, _, _ => Int.le_refl _
  | x :: r, l, h, hi, hw => by
    obtain ⟨_, h2, h3⟩ := sz59 x l h hi (hw x (List.mem_cons_self ..))
    simp only [szL34]
    rw [i64_iff] at hi
    split
    · omega
    · have := szL34_ok r (g59_0 x l) (by omega) (by rw [i64_iff]; omega) (fun y hy => hw y (List.mem_cons_of_mem _ hy))
      omega

theorem run34 (x0 : List (ByteArray × ByteArray × ByteArray × Unit)) (hm : x0.length ≤ maxLen) (hw : ∀ x ∈ x0, Wf (.cons .str (.cons .str (.cons .str .unit))) x) : ∀ (k i : Nat) (l : Int), i + k = x0.length → 0 ≤ l → InR .i64 l →
    R34_5 (k + 1) l (i : Int) x0 [⟨.int .i64, szL34 (x0.drop i) l⟩] := by
  intro k
  induction k with
  | zero =>
    intro i l hi _ _
    rw [R34_5, if_neg (by simp; omega), drop_end x0 i (by omega)]
    rfl
  | succ k ih =>
    intro i l hi h0 hl
    rw [R34_5, if_pos (by simp; omega)]
    simp only [Int.toNat_natCast]
    have hmem : x0.getD i (ByteArray.empty, ByteArray.empty, ByteArray.empty, ()) ∈ x0 := by rw [getD_lt _ _ _ (by omega)]; exact List.getElem_mem _
    obtain ⟨h1, h2, h3⟩ := sz59 _ l h0 hl (hw _ hmem)
    refine ⟨by omega, by omega, h1, ?_⟩
    rw [drop_get x0 i (ByteArray.empty, ByteArray.empty, ByteArray.empty, ()) (by omega)]
    simp only [szL34]
    have hl' := hl
    rw [i64_iff] at hl'
    by_cases hn : g59_0 (x0.getD i (ByteArray.empty, ByteArray.empty, ByteArray.empty, ())) l < 0
    · rw [if_pos (by simpa using hn), if_pos hn]
    · rw [if_neg (by simpa using hn), if_neg hn]
      exact ⟨inR_up hm (by omega), ih (i + 1) _ (by omega) (by omega) (by rw [i64_iff]; omega)⟩

def g34_0 (x0 : List (ByteArray × ByteArray × ByteArray × Unit)) (x1 : Int) : Int := if x1 - x0.length < 0 then -1 else szL34 x0 (x1 - x0.length)
def P34 (x0 : List (ByteArray × ByteArray × ByteArray × Unit)) (x1 : Int) : Prop := 0 ≤ x1

theorem g34_le (x0 : List (ByteArray × ByteArray × ByteArray × Unit)) (x1 : Int) (h : 0 ≤ x1) (hi : InR .i64 x1) (hw : Wf (.sl (.cons .str (.cons .str (.cons .str .unit)))) x0) (hg : ¬ g34_0 x0 x1 < 0) : g34_0 x0 x1 ≤ x1 - x0.length := by
  unfold g34_0 at hg ⊢
  rw [i64_iff] at hi
  split
  · rename_i h1
    rw [if_pos h1] at hg
    omega
  · exact szL34_ok x0 _ (by omega) (by rw [i64_iff]; omega) hw.2

theorem top34 (x0 : List (ByteArray × ByteArray × ByteArray × Unit)) (x1 : Int) (hw : Wf (.sl (.cons .str (.cons .str (.cons .str .unit)))) x0) (hi : InR .i64 x1) (h : 0 ≤ x1) : R34 (x0.length + 1 + 1) x0 x1 [⟨Ty.int .i64, g34_0 x0 x1⟩] := by
  have hm : x0.length ≤ maxLen := hw.1
  have hm' : x0.length ≤ 9223372036854775807 := hm
  rw [i64_iff] at hi
  rw [R34]
  refine ⟨by rw [i64_iff]; omega, ?_⟩
  unfold g34_0
  by_cases hn : x1 - (x0.length : Int) < 0
  · rw [if_pos (by simpa using hn), if_pos hn]
  · rw [if_neg (by simpa using hn), if_neg hn]
    have := run34 x0 hm hw.2 x0.length 0 (x1 - x0.length) (by omega) (by omega) (by rw [i64_iff]; omega)
    simpa using this

def S34 : Am.Spec := { sig := sig34, pre := fun ⟨x0, x1, _⟩ => P34 x0 x1, res := fun ⟨x0, x1, _⟩ => [⟨Ty.int .i64, g34_0 x0 x1⟩] }
theorem con34 : Contract Try.prog 34 S34 := contract_of Try.func34 hb34 (Nat.le_of_ble_eq_true (by kernel_rfl)) (fun ⟨x0, x1, _⟩ h hwf w0 O q =>
  (snd34 _).1 x0 x1 _ (top34 x0 x1 hwf.1 hwf.2.1 h) w0 O q)

end Go.Proofs.Ytjkeinpcphkfbaa

/- Function 61 (laws.toBlock): its runs between cut points. Written by a program of this repo (gen). -/
set_option linter.unusedVariables false
set_option linter.unusedSimpArgs false
set_option maxRecDepth 100000
namespace Go.Proofs.Ytjkeinpcphkfbaa
open Go Go.Am Go.Proofs
def ext61 : Ext := []
theorem ext61Ok : ExtOk Try.prog ext61 := trivial
/-! Function 61. -/
noncomputable def b61 : Code := bodyOf Try.f61
theorem hb61 : Try.f61.body = some b61 := by kernel_rfl
def sig61 : List AT := [AT.v (Ty.cons Ty.str (Ty.cons Ty.str (Ty.cons Ty.str Ty.unit)))]
def tys61 : List Ty := [Ty.cons Ty.str (Ty.cons Ty.str (Ty.cons Ty.str Ty.unit))]
def P61 (x0 : ByteArray × ByteArray × ByteArray × Unit) : Prop := True
def g61_0 (x0 : ByteArray × ByteArray × ByteArray × Unit) : ByteArray × ByteArray × ByteArray × Unit := (Prod.fst x0, Prod.fst (Prod.snd x0), Prod.fst (Prod.snd (Prod.snd x0)), ())
theorem p61_0 (x0 : ByteArray × ByteArray × ByteArray × Unit) : runF tab ext61 false 14 [] 2000 [] tys61 Try.f61.results [] [.code b61] (entE 0 0 sig61 (x0, ())) (entL sig61 (x0, ())) = some ([Dyn.mk (Ty.cons Ty.str (Ty.cons Ty.str (Ty.cons Ty.str Ty.unit))) (Prod.fst x0, Prod.fst (Prod.snd x0), Prod.fst (Prod.snd (Prod.snd x0)), ())], [], []) := by kernel_rfl
theorem at61 (x0 : ByteArray × ByteArray × ByteArray × Unit) (h : P61 x0) (w0 : World) (O : List Nat) (q : Nat → Value) : AtV Try.prog 61 (PostR [⟨Ty.cons Ty.str (Ty.cons Ty.str (Ty.cons Ty.str Ty.unit)), g61_0 x0⟩] [] [] q w0 O) 14 w0 O q [] [.code b61] (entE 0 0 sig61 (x0, ())) (entL sig61 (x0, ())) := by
  unfold P61 at h
  unfold g61_0
  exact AtV.fin Try.func61 tabOk ext61Ok mixed (p61_0 x0) trivial

def S61 : Am.Spec := { sig := sig61, pre := fun ⟨x0, _⟩ => P61 x0, res := fun ⟨x0, _⟩ => [⟨Ty.cons Ty.str (Ty.cons Ty.str (Ty.cons Ty.str Ty.unit)), g61_0 x0⟩] }
theorem con61 : Contract Try.prog 61 S61 := contract_of Try.func61 hb61 (Nat.le_of_ble_eq_true (by kernel_rfl)) (fun ⟨x0, _⟩ h _ w0 O q => at61 x0 h w0 O q)


end Go.Proofs.Ytjkeinpcphkfbaa

/- Function 36 (laws.toBlockS): its runs between cut points. Written by a program of this repo (gen). -/
set_option linter.unusedVariables false
set_option linter.unusedSimpArgs false
set_option maxRecDepth 100000
namespace Go.Proofs.Ytjkeinpcphkfbaa
open Go Go.Am Go.Proofs
def ext36 : Ext := [(61, S61)]
theorem call36_61 : Callable Try.prog 61 := ⟨Try.f61, Try.func61, by kernel_rfl, by kernel_rfl⟩
theorem ext36Ok : ExtOk Try.prog ext36 := ⟨⟨call36_61, con61⟩, trivial⟩
/-! Function 36. -/
noncomputable def b36 : Code := bodyOf Try.f36
theorem hb36 : Try.f36.body = some b36 := by kernel_rfl
def sig36 : List AT := [AT.v (Ty.sl (Ty.cons Ty.str (Ty.cons Ty.str (Ty.cons Ty.str Ty.unit))))]
def tys36 : List Ty := [Ty.sl (Ty.cons Ty.str (Ty.cons Ty.str (Ty.cons Ty.str Ty.unit)))]
def E36_3 (v4 : Int) (h0 : List (ByteArray × ByteArray × ByteArray × Unit)) (x0 : List (ByteArray × ByteArray × ByteArray × Unit)) : Env := [(0, PV.a (Atom.sl (Ty.cons Ty.str (Ty.cons Ty.str (Ty.cons Ty.str Ty.unit))) x0)), (3, PV.a (Atom.osl 0 Option.none)), (4, PV.a (Atom.val (Value.int IntKind.i64 v4)))]
def L36_3 (v4 : Int) (h0 : List (ByteArray × ByteArray × ByteArray × Unit)) (x0 : List (ByteArray × ByteArray × ByteArray × Unit)) : Heap := [Option.some (Arr.mk (Ty.cons Ty.str (Ty.cons Ty.str (Ty.cons Ty.str Ty.unit))) h0 Bool.false)]
mutual
def R36 : Nat → List (ByteArray × ByteArray × ByteArray × Unit) → List Dyn → Prop
  | 0, _, _ => False
  | n + 1, x0, ds => ((0 ≤ (↑(List.length x0) : Int)) ∧ ((↑(List.length x0) : Int) ≤ (↑(List.length x0) : Int)) ∧ (48 * (↑(List.length x0) : Int) ≤ 281474976710656) ∧ (R36_3 n (0) (List.replicate (Int.toNat (↑(List.length x0) : Int)) (ByteArray.empty, ByteArray.empty, ByteArray.empty, ())) (x0) ds))
def R36_3 : Nat → Int → List (ByteArray × ByteArray × ByteArray × Unit) → List (ByteArray × ByteArray × ByteArray × Unit) → List Dyn → Prop
  | 0, _, _, _, _ => False
  | n + 1, v4, h0, x0, ds => (if (Decidable.decide (v4 < (↑(List.length x0) : Int))) = true then ((0 ≤ v4) ∧ (v4 < (↑(List.length x0) : Int)) ∧ ((0 ≤ v4) ∧ (v4 < (↑(List.length h0) : Int)) ∧ ((InR IntKind.i64 (v4 + 1)) ∧ (R36_3 n (v4 + 1) (List.set h0 (Int.toNat v4) (Prod.fst (List.getD x0 (Int.toNat v4) (ByteArray.empty, ByteArray.empty, ByteArray.empty, ())), Prod.fst (Prod.snd (List.getD x0 (Int.toNat v4) (ByteArray.empty, ByteArray.empty, ByteArray.empty, ()))), Prod.fst (Prod.snd (Prod.snd (List.getD x0 (Int.toNat v4) (ByteArray.empty, ByteArray.empty, ByteArray.empty, ())))), ())) (x0) ds)))) else (ds = [Dyn.mk (Ty.sl (Ty.cons Ty.str (Ty.cons Ty.str (Ty.cons Ty.str Ty.unit)))) h0]))
end
theorem p36_0 (x0 : List (ByteArray × ByteArray × ByteArray × Unit)) : Am.runN tab ext36 false 23 [] 2000 [] [] [0, 3, 4] [0] [] [.code b36] (entE 0 0 sig36 (x0, ())) (entL sig36 (x0, ())) = some (cutAt b36 3, E36_3 (0) (List.replicate (Int.toNat (↑(List.length x0) : Int)) (ByteArray.empty, ByteArray.empty, ByteArray.empty, ())) (x0), L36_3 (0) (List.replicate (Int.toNat (↑(List.length x0) : Int)) (ByteArray.empty, ByteArray.empty, ByteArray.empty, ())) (x0), [0 ≤ (↑(List.length x0) : Int), (↑(List.length x0) : Int) ≤ (↑(List.length x0) : Int), 48 * (↑(List.length x0) : Int) ≤ 281474976710656]) := by kernel_rfl
theorem p36_1 (v4 : Int) (h0 : List (ByteArray × ByteArray × ByteArray × Unit)) (x0 : List (ByteArray × ByteArray × ByteArray × Unit)) : Am.runN tab ext36 false 23 [] 2000 [] [] [0, 3, 4] [0] [true] (cutAt b36 3) (E36_3 v4 h0 x0) (L36_3 v4 h0 x0) = some (cutAt b36 3, E36_3 (v4 + 1) (List.set h0 (Int.toNat v4) (Prod.fst (List.getD x0 (Int.toNat v4) (ByteArray.empty, ByteArray.empty, ByteArray.empty, ())), Prod.fst (Prod.snd (List.getD x0 (Int.toNat v4) (ByteArray.empty, ByteArray.empty, ByteArray.empty, ()))), Prod.fst (Prod.snd (Prod.snd (List.getD x0 (Int.toNat v4) (ByteArray.empty, ByteArray.empty, ByteArray.empty, ())))), ())) (x0), L36_3 (v4 + 1) (List.set h0 (Int.toNat v4) (Prod.fst (List.getD x0 (Int.toNat v4) (ByteArray.empty, ByteArray.empty, ByteArray.empty, ())), Prod.fst (Prod.snd (List.getD x0 (Int.toNat v4) (ByteArray.empty, ByteArray.empty, ByteArray.empty, ()))), Prod.fst (Prod.snd (Prod.snd (List.getD x0 (Int.toNat v4) (ByteArray.empty, ByteArray.empty, ByteArray.empty, ())))), ())) (x0), [Decidable.decide (v4 < (↑(List.length x0) : Int)) = Bool.true, 0 ≤ v4, v4 < (↑(List.length x0) : Int), True, 0 ≤ v4, v4 < (↑(List.length h0) : Int), InR IntKind.i64 (v4 + 1)]) := by kernel_rfl
theorem p36_2 (v4 : Int) (h0 : List (ByteArray × ByteArray × ByteArray × Unit)) (x0 : List (ByteArray × ByteArray × ByteArray × Unit)) : runF tab ext36 false 23 [] 2000 [] tys36 Try.f36.results [false] (cutAt b36 3) (E36_3 v4 h0 x0) (L36_3 v4 h0 x0) = some ([Dyn.mk (Ty.sl (Ty.cons Ty.str (Ty.cons Ty.str (Ty.cons Ty.str Ty.unit)))) h0], [], [Decidable.decide (v4 < (↑(List.length x0) : Int)) = Bool.false]) := by kernel_rfl
theorem snd36 : ∀ n, (∀ (x0 : List (ByteArray × ByteArray × ByteArray × Unit)) ds, R36 n x0 ds → ∀ w0 O q, AtV Try.prog 36 (PostR ds [] [] q w0 O) 23 w0 O q [] [.code b36] (entE 0 0 sig36 (x0, ())) (entL sig36 (x0, ()))) ∧ (∀ (v4 : Int) (h0 : List (ByteArray × ByteArray × ByteArray × Unit)) (x0 : List (ByteArray × ByteArray × ByteArray × Unit)) ds, R36_3 n v4 h0 x0 ds → ∀ w0 O q, AtV Try.prog 36 (PostR ds [] [] q w0 O) 23 w0 O q [] (cutAt b36 3) (E36_3 v4 h0 x0) (L36_3 v4 h0 x0)) := by
  intro n
  induction n with
  | zero => exact ⟨fun _ _ h => by simp only [R36] at h, fun _ _ _ _ h => by simp only [R36_3] at h⟩
  | succ n ih =>
  obtain ⟨ih, ih3⟩ := ih
  refine ⟨?_, ?_⟩
  · intro x0 ds h w0 O q
    rw [R36] at h
    obtain ⟨s0, s1, s2, h⟩ := h
    exact AtV.runN tabOk ext36Ok mixed (p36_0 x0) ⟨s0, s1, s2, trivial⟩ (ih3 _ _ _ _ h w0 O q)

  · intro v4 h0 x0 ds h w0 O q
    rw [R36_3] at h
    by_cases b0 : (Decidable.decide (v4 < (↑(List.length x0) : Int))) = true
    · rw [if_pos b0] at h
      obtain ⟨s0, s1, h⟩ := h
      obtain ⟨s2, s3, h⟩ := h
      obtain ⟨s4, h⟩ := h
      exact AtV.runN tabOk ext36Ok mixed (p36_1 v4 h0 x0) ⟨b0, s0, s1, trivial, s2, s3, s4, trivial⟩ (ih3 _ _ _ _ h w0 O q)
    · rw [if_neg b0] at h
      replace b0 := Bool.eq_false_iff.2 b0
      subst h
      exact AtV.fin Try.func36 tabOk ext36Ok mixed (p36_2 v4 h0 x0) ⟨b0, trivial⟩



theorem run36 (x0 : List (ByteArray × ByteArray × ByteArray × Unit)) (hm : x0.length ≤ maxLen) : ∀ (k i : Nat), i + k = x0.length →
    R36_3 (k + 1) (i : Int) (x0.take i ++ List.replicate k (ByteArray.empty, ByteArray.empty, ByteArray.empty, ())) x0 [⟨.sl (.cons .str (.cons .str (.cons .str .unit))), x0⟩] := by
  intro k
  induction k with
  | zero =>
    intro i hi
    rw [R36_3, if_neg (by simp; omega), List.take_of_length_le (by omega)]
    simp
  | succ k ih =>
    intro i hi
    rw [R36_3, if_pos (by simp; omega)]
    simp only [Int.toNat_natCast]
    refine ⟨by omega, by omega, by omega, by simp; omega, inR_up hm (by omega), ?_⟩
    have hs := set_step x0 (ByteArray.empty, ByteArray.empty, ByteArray.empty, ()) i (by omega) (k + 1) (by omega)
    have he : ∀ y : ByteArray × ByteArray × ByteArray × Unit, (y.1, y.2.1, y.2.2.1, ()) = y := fun _ => rfl
    rw [he, hs]
    exact ih (i + 1) (by omega)

def g36_0 (x0 : List (ByteArray × ByteArray × ByteArray × Unit)) : List (ByteArray × ByteArray × ByteArray × Unit) := x0
def P36 (x0 : List (ByteArray × ByteArray × ByteArray × Unit)) : Prop := 48 * (x0.length : Int) ≤ 281474976710656
def S36 : Am.Spec := { sig := sig36, pre := fun ⟨x0, _⟩ => P36 x0, res := fun ⟨x0, _⟩ => [⟨.sl (.cons .str (.cons .str (.cons .str .unit))), g36_0 x0⟩] }
theorem con36 : Contract Try.prog 36 S36 := contract_of Try.func36 hb36 (Nat.le_of_ble_eq_true (by kernel_rfl)) (fun ⟨x0, _⟩ h hwf w0 O q => by
  refine (snd36 (x0.length + 2)).1 x0 _ ?_ w0 O q
  show R36 (x0.length + 1 + 1) x0 [⟨.sl (.cons .str (.cons .str (.cons .str .unit))), x0⟩]
  rw [R36]
  refine ⟨by omega, by omega, h, ?_⟩
  have := run36 x0 hwf.1.1 x0.length 0 (by omega)
  simpa using this)

end Go.Proofs.Ytjkeinpcphkfbaa

/- Function 153 (spec.l01Small): its runs between cut points. Written by a program of this repo (gen). -/
set_option linter.unusedVariables false
set_option linter.unusedSimpArgs false
set_option maxRecDepth 100000
namespace Go.Proofs.Ytjkeinpcphkfbaa
open Go Go.Am Go.Proofs
def ext153 : Ext := []
theorem ext153Ok : ExtOk Try.prog ext153 := trivial
/-! Function 153. -/
noncomputable def b153 : Code := bodyOf Try.f153
theorem hb153 : Try.f153.body = some b153 := by kernel_rfl
def sig153 : List AT := [AT.v (Ty.int IntKind.u8)]
def tys153 : List Ty := [Ty.bool]
def P153 (x0 : Int) : Prop := True
def g153_0 (x0 : Int) : Bool := (if (Decidable.decide (x0 ≥ 97)) = true then Decidable.decide (x0 ≤ 122) else Bool.false)
theorem p153_0 (x0 : Int) : runF tab ext153 false 9 [] 2000 [] tys153 Try.f153.results [true] [.code b153] (entE 0 0 sig153 (x0, ())) (entL sig153 (x0, ())) = some ([Dyn.mk Ty.bool (Decidable.decide (x0 ≤ 122))], [], [Decidable.decide (x0 ≥ 97) = Bool.true]) := by kernel_rfl
theorem p153_1 (x0 : Int) : runF tab ext153 false 9 [] 2000 [] tys153 Try.f153.results [false] [.code b153] (entE 0 0 sig153 (x0, ())) (entL sig153 (x0, ())) = some ([Dyn.mk Ty.bool Bool.false], [], [Decidable.decide (x0 ≥ 97) = Bool.false]) := by kernel_rfl
theorem at153 (x0 : Int) (h : P153 x0) (w0 : World) (O : List Nat) (q : Nat → Value) : AtV Try.prog 153 (PostR [⟨Ty.bool, g153_0 x0⟩] [] [] q w0 O) 9 w0 O q [] [.code b153] (entE 0 0 sig153 (x0, ())) (entL sig153 (x0, ())) := by
  unfold P153 at h
  unfold g153_0
  by_cases b0 : (Decidable.decide (x0 ≥ 97)) = true
  · try simp only [if_pos b0] at h ⊢
    exact AtV.fin Try.func153 tabOk ext153Ok mixed (p153_0 x0) ⟨b0, trivial⟩
  · try simp only [if_neg b0] at h ⊢
    replace b0 := Bool.eq_false_iff.2 b0
    exact AtV.fin Try.func153 tabOk ext153Ok mixed (p153_1 x0) ⟨b0, trivial⟩

def S153 : Am.Spec := { sig := sig153, pre := fun ⟨x0, _⟩ => P153 x0, res := fun ⟨x0, _⟩ => [⟨Ty.bool, g153_0 x0⟩] }
theorem con153 : Contract Try.prog 153 S153 := contract_of Try.func153 hb153 (Nat.le_of_ble_eq_true (by kernel_rfl)) (fun ⟨x0, _⟩ h _ w0 O q => at153 x0 h w0 O q)


end Go.Proofs.Ytjkeinpcphkfbaa

/- Function 154 (spec.l01Digit): its runs between cut points. Written by a program of this repo (gen). -/
set_option linter.unusedVariables false
set_option linter.unusedSimpArgs false
set_option maxRecDepth 100000
namespace Go.Proofs.Ytjkeinpcphkfbaa
open Go Go.Am Go.Proofs
def ext154 : Ext := []
theorem ext154Ok : ExtOk Try.prog ext154 := trivial
/-! Function 154. -/
noncomputable def b154 : Code := bodyOf Try.f154
theorem hb154 : Try.f154.body = some b154 := by kernel_rfl
def sig154 : List AT := [AT.v (Ty.int IntKind.u8)]
def tys154 : List Ty := [Ty.bool]
def P154 (x0 : Int) : Prop := True
def g154_0 (x0 : Int) : Bool := (if (Decidable.decide (x0 ≥ 48)) = true then Decidable.decide (x0 ≤ 57) else Bool.false)
theorem p154_0 (x0 : Int) : runF tab ext154 false 9 [] 2000 [] tys154 Try.f154.results [true] [.code b154] (entE 0 0 sig154 (x0, ())) (entL sig154 (x0, ())) = some ([Dyn.mk Ty.bool (Decidable.decide (x0 ≤ 57))], [], [Decidable.decide (x0 ≥ 48) = Bool.true]) := by kernel_rfl
theorem p154_1 (x0 : Int) : runF tab ext154 false 9 [] 2000 [] tys154 Try.f154.results [false] [.code b154] (entE 0 0 sig154 (x0, ())) (entL sig154 (x0, ())) = some ([Dyn.mk Ty.bool Bool.false], [], [Decidable.decide (x0 ≥ 48) = Bool.false]) := by kernel_rfl
theorem at154 (x0 : Int) (h : P154 x0) (w0 : World) (O : List Nat) (q : Nat → Value) : AtV Try.prog 154 (PostR [⟨Ty.bool, g154_0 x0⟩] [] [] q w0 O) 9 w0 O q [] [.code b154] (entE 0 0 sig154 (x0, ())) (entL sig154 (x0, ())) := by
  unfold P154 at h
  unfold g154_0
  by_cases b0 : (Decidable.decide (x0 ≥ 48)) = true
  · try simp only [if_pos b0] at h ⊢
    exact AtV.fin Try.func154 tabOk ext154Ok mixed (p154_0 x0) ⟨b0, trivial⟩
  · try simp only [if_neg b0] at h ⊢
    replace b0 := Bool.eq_false_iff.2 b0
    exact AtV.fin Try.func154 tabOk ext154Ok mixed (p154_1 x0) ⟨b0, trivial⟩

def S154 : Am.Spec := { sig := sig154, pre := fun ⟨x0, _⟩ => P154 x0, res := fun ⟨x0, _⟩ => [⟨Ty.bool, g154_0 x0⟩] }
theorem con154 : Contract Try.prog 154 S154 := contract_of Try.func154 hb154 (Nat.le_of_ble_eq_true (by kernel_rfl)) (fun ⟨x0, _⟩ h _ w0 O q => at154 x0 h w0 O q)


end Go.Proofs.Ytjkeinpcphkfbaa

/- Function 131 (spec.l01Name): its runs between cut points. Written by a program of this repo (gen). -/
set_option linter.unusedVariables false
set_option linter.unusedSimpArgs false
set_option maxRecDepth 100000
namespace Go.Proofs.Ytjkeinpcphkfbaa
open Go Go.Am Go.Proofs
def ext131 : Ext := [(153, S153), (154, S154)]
theorem call131_153 : Callable Try.prog 153 := ⟨Try.f153, Try.func153, by kernel_rfl, by kernel_rfl⟩
theorem call131_154 : Callable Try.prog 154 := ⟨Try.f154, Try.func154, by kernel_rfl, by kernel_rfl⟩
theorem ext131Ok : ExtOk Try.prog ext131 := ⟨⟨call131_153, con153⟩, ⟨call131_154, con154⟩, trivial⟩
/-! Function 131. -/
noncomputable def b131 : Code := bodyOf Try.f131
theorem hb131 : Try.f131.body = some b131 := by kernel_rfl
def sig131 : List AT := [AT.v (Ty.str)]
def tys131 : List Ty := [Ty.bool]
def E131_4 (v3 : Int) (x0 : ByteArray) : Env := [(0, PV.a (Atom.val (Value.string x0))), (3, PV.a (Atom.val (Value.int IntKind.i64 v3)))]
def L131_4 (v3 : Int) (x0 : ByteArray) : Heap := []
mutual
def R131 : Nat → ByteArray → List Dyn → Prop
  | 0, _, _ => False
  | n + 1, x0, ds => (if (ByteArray.toList x0 == ByteArray.toList (ByteArray.mk #[])) = true then (ds = [Dyn.mk Ty.bool Bool.false]) else (if (Decidable.decide ((↑(ByteArray.size x0) : Int) > 10)) = true then (ds = [Dyn.mk Ty.bool Bool.false]) else ((0 < (↑(ByteArray.size x0) : Int)) ∧ (if (!g153_0 (↑(UInt8.toNat (List.getD (Array.toList (ByteArray.data x0)) 0 0)) : Int)) = true then (ds = [Dyn.mk Ty.bool Bool.false]) else (R131_4 n (0) (x0) ds)))))
def R131_4 : Nat → Int → ByteArray → List Dyn → Prop
  | 0, _, _, _ => False
  | n + 1, v3, x0, ds => (if (Decidable.decide (v3 < (↑(ByteArray.size x0) : Int))) = true then ((0 ≤ v3) ∧ (v3 < (↑(ByteArray.size x0) : Int)) ∧ (if (!g153_0 (↑(UInt8.toNat (List.getD (Array.toList (ByteArray.data x0)) (Int.toNat v3) 0)) : Int)) = true then ((0 ≤ v3) ∧ (v3 < (↑(ByteArray.size x0) : Int)) ∧ (if (!g154_0 (↑(UInt8.toNat (List.getD (Array.toList (ByteArray.data x0)) (Int.toNat v3) 0)) : Int)) = true then (ds = [Dyn.mk Ty.bool Bool.false]) else ((InR IntKind.i64 (v3 + 1)) ∧ (R131_4 n (v3 + 1) (x0) ds)))) else ((InR IntKind.i64 (v3 + 1)) ∧ (R131_4 n (v3 + 1) (x0) ds)))) else (ds = [Dyn.mk Ty.bool Bool.true]))
end
theorem p131_0 (x0 : ByteArray) : runF tab ext131 false 35 [] 2000 [] tys131 Try.f131.results [true, true, true] [.code b131] (entE 0 0 sig131 (x0, ())) (entL sig131 (x0, ())) = some ([Dyn.mk Ty.bool Bool.false], [], [(ByteArray.toList x0 == ByteArray.toList (ByteArray.mk #[])) = Bool.true, Bool.true = Bool.true, Bool.true = Bool.true]) := by kernel_rfl
theorem p131_1 (x0 : ByteArray) : runF tab ext131 false 35 [] 2000 [] tys131 Try.f131.results [false, true, true] [.code b131] (entE 0 0 sig131 (x0, ())) (entL sig131 (x0, ())) = some ([Dyn.mk Ty.bool Bool.false], [], [(ByteArray.toList x0 == ByteArray.toList (ByteArray.mk #[])) = Bool.false, Decidable.decide ((↑(ByteArray.size x0) : Int) > 10) = Bool.true, Bool.true = Bool.true]) := by kernel_rfl
theorem p131_2 (x0 : ByteArray) : runF tab ext131 false 35 [] 2000 [] tys131 Try.f131.results [false, false, true] [.code b131] (entE 0 0 sig131 (x0, ())) (entL sig131 (x0, ())) = some ([Dyn.mk Ty.bool Bool.false], [], [(ByteArray.toList x0 == ByteArray.toList (ByteArray.mk #[])) = Bool.false, Decidable.decide ((↑(ByteArray.size x0) : Int) > 10) = Bool.false, (0 : Int) ≤ (0 : Int), 0 < (↑(ByteArray.size x0) : Int), True, (!g153_0 (↑(UInt8.toNat (List.getD (Array.toList (ByteArray.data x0)) 0 0)) : Int)) = Bool.true]) := by kernel_rfl
theorem p131_3 (x0 : ByteArray) : Am.runN tab ext131 false 35 [] 2000 [] [] [0, 3] [] [false, false, false] [.code b131] (entE 0 0 sig131 (x0, ())) (entL sig131 (x0, ())) = some (cutAt b131 4, E131_4 (0) (x0), L131_4 (0) (x0), [(ByteArray.toList x0 == ByteArray.toList (ByteArray.mk #[])) = Bool.false, Decidable.decide ((↑(ByteArray.size x0) : Int) > 10) = Bool.false, (0 : Int) ≤ (0 : Int), 0 < (↑(ByteArray.size x0) : Int), True, (!g153_0 (↑(UInt8.toNat (List.getD (Array.toList (ByteArray.data x0)) 0 0)) : Int)) = Bool.false]) := by kernel_rfl
theorem p131_4 (v3 : Int) (x0 : ByteArray) : runF tab ext131 false 35 [] 2000 [] tys131 Try.f131.results [true, true, true] (cutAt b131 4) (E131_4 v3 x0) (L131_4 v3 x0) = some ([Dyn.mk Ty.bool Bool.false], [], [Decidable.decide (v3 < (↑(ByteArray.size x0) : Int)) = Bool.true, 0 ≤ v3, v3 < (↑(ByteArray.size x0) : Int), True, (!g153_0 (↑(UInt8.toNat (List.getD (Array.toList (ByteArray.data x0)) (Int.toNat v3) 0)) : Int)) = Bool.true, 0 ≤ v3, v3 < (↑(ByteArray.size x0) : Int), True, (!g154_0 (↑(UInt8.toNat (List.getD (Array.toList (ByteArray.data x0)) (Int.toNat v3) 0)) : Int)) = Bool.true]) := by kernel_rfl
theorem p131_5 (v3 : Int) (x0 : ByteArray) : Am.runN tab ext131 false 35 [] 2000 [] [] [0, 3] [] [true, true, false] (cutAt b131 4) (E131_4 v3 x0) (L131_4 v3 x0) = some (cutAt b131 4, E131_4 (v3 + 1) (x0), L131_4 (v3 + 1) (x0), [Decidable.decide (v3 < (↑(ByteArray.size x0) : Int)) = Bool.true, 0 ≤ v3, v3 < (↑(ByteArray.size x0) : Int), True, (!g153_0 (↑(UInt8.toNat (List.getD (Array.toList (ByteArray.data x0)) (Int.toNat v3) 0)) : Int)) = Bool.true, 0 ≤ v3, v3 < (↑(ByteArray.size x0) : Int), True, (!g154_0 (↑(UInt8.toNat (List.getD (Array.toList (ByteArray.data x0)) (Int.toNat v3) 0)) : Int)) = Bool.false, InR IntKind.i64 (v3 + 1)]) := by kernel_rfl
theorem p131_6 (v3 : Int) (x0 : ByteArray) : Am.runN tab ext131 false 35 [] 2000 [] [] [0, 3] [] [true, false, false] (cutAt b131 4) (E131_4 v3 x0) (L131_4 v3 x0) = some (cutAt b131 4, E131_4 (v3 + 1) (x0), L131_4 (v3 + 1) (x0), [Decidable.decide (v3 < (↑(ByteArray.size x0) : Int)) = Bool.true, 0 ≤ v3, v3 < (↑(ByteArray.size x0) : Int), True, (!g153_0 (↑(UInt8.toNat (List.getD (Array.toList (ByteArray.data x0)) (Int.toNat v3) 0)) : Int)) = Bool.false, Bool.false = Bool.false, InR IntKind.i64 (v3 + 1)]) := by kernel_rfl
theorem p131_7 (v3 : Int) (x0 : ByteArray) : runF tab ext131 false 35 [] 2000 [] tys131 Try.f131.results [false] (cutAt b131 4) (E131_4 v3 x0) (L131_4 v3 x0) = some ([Dyn.mk Ty.bool Bool.true], [], [Decidable.decide (v3 < (↑(ByteArray.size x0) : Int)) = Bool.false]) := by kernel_rfl
theorem snd131 : ∀ n, (∀ (x0 : ByteArray) ds, R131 n x0 ds → ∀ w0 O q, AtV Try.prog 131 (PostR ds [] [] q w0 O) 35 w0 O q [] [.code b131] (entE 0 0 sig131 (x0, ())) (entL sig131 (x0, ()))) ∧ (∀ (v3 : Int) (x0 : ByteArray) ds, R131_4 n v3 x0 ds → ∀ w0 O q, AtV Try.prog 131 (PostR ds [] [] q w0 O) 35 w0 O q [] (cutAt b131 4) (E131_4 v3 x0) (L131_4 v3 x0)) := by
  intro n
  induction n with
  | zero => exact ⟨fun _ _ h => by simp only [R131] at h, fun _ _ _ h => by simp only [R131_4] at h⟩
  | succ n ih =>
  obtain ⟨ih, ih4⟩ := ih
  refine ⟨?_, ?_⟩
  · intro x0 ds h w0 O q
    rw [R131] at h
    by_cases b0 : (ByteArray.toList x0 == ByteArray.toList (ByteArray.mk #[])) = true
    · rw [if_pos b0] at h
      subst h
      exact AtV.fin Try.func131 tabOk ext131Ok mixed (p131_0 x0) ⟨b0, rfl, rfl, trivial⟩
    · rw [if_neg b0] at h
      replace b0 := Bool.eq_false_iff.2 b0
      by_cases b1 : (Decidable.decide ((↑(ByteArray.size x0) : Int) > 10)) = true
      · rw [if_pos b1] at h
        subst h
        exact AtV.fin Try.func131 tabOk ext131Ok mixed (p131_1 x0) ⟨b0, b1, rfl, trivial⟩
      · rw [if_neg b1] at h
        replace b1 := Bool.eq_false_iff.2 b1
        obtain ⟨s0, h⟩ := h
        by_cases b2 : (!g153_0 (↑(UInt8.toNat (List.getD (Array.toList (ByteArray.data x0)) 0 0)) : Int)) = true
        · rw [if_pos b2] at h
          subst h
          exact AtV.fin Try.func131 tabOk ext131Ok mixed (p131_2 x0) ⟨b0, b1, (by decide), s0, trivial, b2, trivial⟩
        · rw [if_neg b2] at h
          replace b2 := Bool.eq_false_iff.2 b2
          exact AtV.runN tabOk ext131Ok mixed (p131_3 x0) ⟨b0, b1, (by decide), s0, trivial, b2, trivial⟩ (ih4 _ _ _ h w0 O q)

  · intro v3 x0 ds h w0 O q
    rw [R131_4] at h
    by_cases b0 : (Decidable.decide (v3 < (↑(ByteArray.size x0) : Int))) = true
    · rw [if_pos b0] at h
      obtain ⟨s0, s1, h⟩ := h
      by_cases b1 : (!g153_0 (↑(UInt8.toNat (List.getD (Array.toList (ByteArray.data x0)) (Int.toNat v3) 0)) : Int)) = true
      · rw [if_pos b1] at h
        obtain ⟨s2, s3, h⟩ := h
        by_cases b2 : (!g154_0 (↑(UInt8.toNat (List.getD (Array.toList (ByteArray.data x0)) (Int.toNat v3) 0)) : Int)) = true
        · rw [if_pos b2] at h
          subst h
          exact AtV.fin Try.func131 tabOk ext131Ok mixed (p131_4 v3 x0) ⟨b0, s0, s1, trivial, b1, s2, s3, trivial, b2, trivial⟩
        · rw [if_neg b2] at h
          replace b2 := Bool.eq_false_iff.2 b2
          obtain ⟨s4, h⟩ := h
          exact AtV.runN tabOk ext131Ok mixed (p131_5 v3 x0) ⟨b0, s0, s1, trivial, b1, s2, s3, trivial, b2, s4, trivial⟩ (ih4 _ _ _ h w0 O q)
      · rw [if_neg b1] at h
        replace b1 := Bool.eq_false_iff.2 b1
        obtain ⟨s2, h⟩ := h
        exact AtV.runN tabOk ext131Ok mixed (p131_6 v3 x0) ⟨b0, s0, s1, trivial, b1, rfl, s2, trivial⟩ (ih4 _ _ _ h w0 O q)
    · rw [if_neg b0] at h
      replace b0 := Bool.eq_false_iff.2 b0
      subst h
      exact AtV.fin Try.func131 tabOk ext131Ok mixed (p131_7 v3 x0) ⟨b0, trivial⟩



def g131_0 (x0 : ByteArray) : Bool := decide (1 ≤ x0.size) && decide (x0.size ≤ 10) && g153_0 ((bytesOf x0).getD 0 0) && (bytesOf x0).all fun b => g153_0 b || g154_0 b
def P131 (x0 : ByteArray) : Prop := True

theorem top131 (x0 : ByteArray) (hw : Wf .str x0) : R131 (x0.size + 1 + 1) x0 [⟨.bool, g131_0 x0⟩] := by
  have hl := bytesOf_length x0
  rw [R131]
  by_cases h0 : x0 = ByteArray.mk #[]
  · rw [if_pos ((bytes_eq _ _).2 h0)]
    subst h0
    rfl
  · rw [if_neg (fun h => h0 ((bytes_eq _ _).1 h))]
    have hs : 1 ≤ x0.size := by
      rcases Nat.lt_or_ge 0 x0.size with h | h
      · exact h
      · exact absurd (bytesOf_inj (s := x0) (t := ByteArray.mk #[]) (List.eq_nil_of_length_eq_zero (by rw [hl]; omega))) h0
    by_cases h1 : (x0.size : Int) > 10
    · rw [if_pos (by simpa using h1)]
      have : ¬ x0.size ≤ 10 := by omega
      simp [g131_0, this]
    · rw [if_neg (by simpa using h1)]
      refine ⟨by omega, ?_⟩
      rw [byte_get]
      cases h2 : g153_0 ((bytesOf x0).getD 0 0) with
      | false =>
        rw [if_pos (by simp)]
        simp [g131_0, h2, -List.getD_eq_getElem?_getD]
      | true =>
        rw [if_neg (by simp)]
        have key := loop_test (bytesOf x0) 0 (fun b => g153_0 b || g154_0 b) [(⟨.bool, false⟩ : Dyn)] [⟨.bool, true⟩] (fun n i ds => R131_4 n i x0 ds) (fun n => ?_) (fun n i hi hok ds hr => ?_) (fun n i hi hok => ?_)
        · rw [hl] at key
          have e : g131_0 x0 = (bytesOf x0).all fun b => g153_0 b || g154_0 b := by
            have : x0.size ≤ 10 := by omega
            unfold g131_0
            simp only [hs, this, decide_true, Bool.true_and, h2]
          rw [e]
          cases h : (bytesOf x0).all fun b => g153_0 b || g154_0 b with
          | true => rw [if_pos h] at key; exact key
          | false => rw [if_neg (by rw [h]; simp)] at key; exact key
        · show R131_4 (n + 1) ((bytesOf x0).length : Int) x0 _
          rw [R131_4, hl, if_neg (by simp)]
        · rw [R131_4, if_pos (by simp; omega)]
          simp only [Int.toNat_natCast, byte_get]
          generalize (bytesOf x0).getD i 0 = c at *
          refine ⟨by omega, by omega, ?_⟩
          have hu := inR_up (xs := bytesOf x0) (by rw [hl]; exact hw) hi
          cases h3 : g153_0 c with
          | true => rw [if_neg (by simp)]; exact ⟨hu, hr⟩
          | false =>
            rw [if_pos (by simp)]
            rw [h3, Bool.false_or] at hok
            refine ⟨by omega, by omega, ?_⟩
            rw [if_neg (by rw [hok]; simp)]
            exact ⟨hu, hr⟩
        · simp only [Bool.or_eq_false_iff] at hok
          rw [R131_4, if_pos (by simp; omega)]
          simp only [Int.toNat_natCast, byte_get]
          refine ⟨by omega, by omega, ?_⟩
          rw [if_pos (by rw [hok.1]; rfl)]
          refine ⟨by omega, by omega, ?_⟩
          rw [if_pos (by rw [hok.2]; rfl)] <;> trivial

def S131 : Am.Spec := { sig := sig131, pre := fun ⟨x0, _⟩ => P131 x0, res := fun ⟨x0, _⟩ => [⟨Ty.bool, g131_0 x0⟩] }
theorem con131 : Contract Try.prog 131 S131 := contract_of Try.func131 hb131 (Nat.le_of_ble_eq_true (by kernel_rfl)) (fun ⟨x0, _⟩ h hwf w0 O q =>
  (snd131 _).1 x0 _ (top131 x0 hwf.1) w0 O q)

end Go.Proofs.Ytjkeinpcphkfbaa

/- Function 105 (spec.l29One): its runs between cut points. Written by a program of this repo (gen). -/
set_option linter.unusedVariables false
set_option linter.unusedSimpArgs false
set_option maxRecDepth 100000
namespace Go.Proofs.Ytjkeinpcphkfbaa
open Go Go.Am Go.Proofs
def ext105 : Ext := [(131, S131)]
theorem call105_131 : Callable Try.prog 131 := ⟨Try.f131, Try.func131, by kernel_rfl, by kernel_rfl⟩
theorem ext105Ok : ExtOk Try.prog ext105 := ⟨⟨call105_131, con131⟩, trivial⟩
/-! Function 105. -/
noncomputable def b105 : Code := bodyOf Try.f105
theorem hb105 : Try.f105.body = some b105 := by kernel_rfl
def sig105 : List AT := [AT.p (Ty.cons Ty.str (Ty.cons Ty.str (Ty.cons Ty.str Ty.unit)))]
def tys105 : List Ty := [Ty.bool]
def E105_2 (v3 : Int) (x0 : ByteArray × ByteArray × ByteArray × Unit) : Env := [(0, PV.a (Atom.ptr (Ty.cons Ty.str (Ty.cons Ty.str (Ty.cons Ty.str Ty.unit))) x0)), (3, PV.a (Atom.val (Value.int IntKind.i64 v3)))]
def L105_2 (v3 : Int) (x0 : ByteArray × ByteArray × ByteArray × Unit) : Heap := []
mutual
def R105 : Nat → ByteArray × ByteArray × ByteArray × Unit → List Dyn → Prop
  | 0, _, _ => False
  | n + 1, x0, ds => (R105_2 n (0) (x0) ds)
def R105_2 : Nat → Int → ByteArray × ByteArray × ByteArray × Unit → List Dyn → Prop
  | 0, _, _, _ => False
  | n + 1, v3, x0, ds => (if (Decidable.decide (v3 < (↑(ByteArray.size (Prod.fst (Prod.snd (Prod.snd x0)))) : Int))) = true then ((0 ≤ v3) ∧ (v3 < (↑(ByteArray.size (Prod.fst (Prod.snd (Prod.snd x0)))) : Int)) ∧ (if ((↑(UInt8.toNat (List.getD (Array.toList (ByteArray.data (Prod.fst (Prod.snd (Prod.snd x0))))) (Int.toNat v3) 0)) : Int) == 10) = true then (ds = [Dyn.mk Ty.bool Bool.false]) else ((InR IntKind.i64 (v3 + 1)) ∧ (R105_2 n (v3 + 1) (x0) ds)))) else (if (g131_0 (Prod.fst x0)) = true then (if (g131_0 (Prod.fst (Prod.snd x0))) = true then (ds = [Dyn.mk Ty.bool (Decidable.decide ((↑(ByteArray.size (Prod.fst (Prod.snd (Prod.snd x0)))) : Int) ≤ 400))]) else (ds = [Dyn.mk Ty.bool Bool.false])) else (ds = [Dyn.mk Ty.bool Bool.false])))
end
theorem p105_0 (x0 : ByteArray × ByteArray × ByteArray × Unit) : Am.runN tab ext105 false 40 [] 2000 [] [] [0, 3] [] [] [.code b105] (entE 0 0 sig105 (x0, ())) (entL sig105 (x0, ())) = some (cutAt b105 2, E105_2 (0) (x0), L105_2 (0) (x0), []) := by kernel_rfl
theorem p105_1 (v3 : Int) (x0 : ByteArray × ByteArray × ByteArray × Unit) : runF tab ext105 false 40 [] 2000 [] tys105 Try.f105.results [true, true] (cutAt b105 2) (E105_2 v3 x0) (L105_2 v3 x0) = some ([Dyn.mk Ty.bool Bool.false], [], [Decidable.decide (v3 < (↑(ByteArray.size (Prod.fst (Prod.snd (Prod.snd x0)))) : Int)) = Bool.true, 0 ≤ v3, v3 < (↑(ByteArray.size (Prod.fst (Prod.snd (Prod.snd x0)))) : Int), ((↑(UInt8.toNat (List.getD (Array.toList (ByteArray.data (Prod.fst (Prod.snd (Prod.snd x0))))) (Int.toNat v3) 0)) : Int) == 10) = Bool.true]) := by kernel_rfl
theorem p105_2 (v3 : Int) (x0 : ByteArray × ByteArray × ByteArray × Unit) : Am.runN tab ext105 false 40 [] 2000 [] [] [0, 3] [] [true, false] (cutAt b105 2) (E105_2 v3 x0) (L105_2 v3 x0) = some (cutAt b105 2, E105_2 (v3 + 1) (x0), L105_2 (v3 + 1) (x0), [Decidable.decide (v3 < (↑(ByteArray.size (Prod.fst (Prod.snd (Prod.snd x0)))) : Int)) = Bool.true, 0 ≤ v3, v3 < (↑(ByteArray.size (Prod.fst (Prod.snd (Prod.snd x0)))) : Int), ((↑(UInt8.toNat (List.getD (Array.toList (ByteArray.data (Prod.fst (Prod.snd (Prod.snd x0))))) (Int.toNat v3) 0)) : Int) == 10) = Bool.false, InR IntKind.i64 (v3 + 1)]) := by kernel_rfl
theorem p105_3 (v3 : Int) (x0 : ByteArray × ByteArray × ByteArray × Unit) : runF tab ext105 false 40 [] 2000 [] tys105 Try.f105.results [false, true, true] (cutAt b105 2) (E105_2 v3 x0) (L105_2 v3 x0) = some ([Dyn.mk Ty.bool (Decidable.decide ((↑(ByteArray.size (Prod.fst (Prod.snd (Prod.snd x0)))) : Int) ≤ 400))], [], [Decidable.decide (v3 < (↑(ByteArray.size (Prod.fst (Prod.snd (Prod.snd x0)))) : Int)) = Bool.false, True, g131_0 (Prod.fst x0) = Bool.true, True, g131_0 (Prod.fst (Prod.snd x0)) = Bool.true]) := by kernel_rfl
theorem p105_4 (v3 : Int) (x0 : ByteArray × ByteArray × ByteArray × Unit) : runF tab ext105 false 40 [] 2000 [] tys105 Try.f105.results [false, true, false] (cutAt b105 2) (E105_2 v3 x0) (L105_2 v3 x0) = some ([Dyn.mk Ty.bool Bool.false], [], [Decidable.decide (v3 < (↑(ByteArray.size (Prod.fst (Prod.snd (Prod.snd x0)))) : Int)) = Bool.false, True, g131_0 (Prod.fst x0) = Bool.true, True, g131_0 (Prod.fst (Prod.snd x0)) = Bool.false]) := by kernel_rfl
theorem p105_5 (v3 : Int) (x0 : ByteArray × ByteArray × ByteArray × Unit) : runF tab ext105 false 40 [] 2000 [] tys105 Try.f105.results [false, false, false] (cutAt b105 2) (E105_2 v3 x0) (L105_2 v3 x0) = some ([Dyn.mk Ty.bool Bool.false], [], [Decidable.decide (v3 < (↑(ByteArray.size (Prod.fst (Prod.snd (Prod.snd x0)))) : Int)) = Bool.false, True, g131_0 (Prod.fst x0) = Bool.false, Bool.false = Bool.false]) := by kernel_rfl
theorem snd105 : ∀ n, (∀ (x0 : ByteArray × ByteArray × ByteArray × Unit) ds, R105 n x0 ds → ∀ w0 O q, AtV Try.prog 105 (PostR ds [] [] q w0 O) 40 w0 O q [] [.code b105] (entE 0 0 sig105 (x0, ())) (entL sig105 (x0, ()))) ∧ (∀ (v3 : Int) (x0 : ByteArray × ByteArray × ByteArray × Unit) ds, R105_2 n v3 x0 ds → ∀ w0 O q, AtV Try.prog 105 (PostR ds [] [] q w0 O) 40 w0 O q [] (cutAt b105 2) (E105_2 v3 x0) (L105_2 v3 x0)) := by
  intro n
  induction n with
  | zero => exact ⟨fun _ _ h => by simp only [R105] at h, fun _ _ _ h => by simp only [R105_2] at h⟩
  | succ n ih =>
  obtain ⟨ih, ih2⟩ := ih
  refine ⟨?_, ?_⟩
  · intro x0 ds h w0 O q
    rw [R105] at h
    exact AtV.runN tabOk ext105Ok mixed (p105_0 x0) trivial (ih2 _ _ _ h w0 O q)

  · intro v3 x0 ds h w0 O q
    rw [R105_2] at h
    by_cases b0 : (Decidable.decide (v3 < (↑(ByteArray.size (Prod.fst (Prod.snd (Prod.snd x0)))) : Int))) = true
    · rw [if_pos b0] at h
      obtain ⟨s0, s1, h⟩ := h
      by_cases b1 : ((↑(UInt8.toNat (List.getD (Array.toList (ByteArray.data (Prod.fst (Prod.snd (Prod.snd x0))))) (Int.toNat v3) 0)) : Int) == 10) = true
      · rw [if_pos b1] at h
        subst h
        exact AtV.fin Try.func105 tabOk ext105Ok mixed (p105_1 v3 x0) ⟨b0, s0, s1, b1, trivial⟩
      · rw [if_neg b1] at h
        replace b1 := Bool.eq_false_iff.2 b1
        obtain ⟨s2, h⟩ := h
        exact AtV.runN tabOk ext105Ok mixed (p105_2 v3 x0) ⟨b0, s0, s1, b1, s2, trivial⟩ (ih2 _ _ _ h w0 O q)
    · rw [if_neg b0] at h
      replace b0 := Bool.eq_false_iff.2 b0
      by_cases b1 : (g131_0 (Prod.fst x0)) = true
      · rw [if_pos b1] at h
        by_cases b2 : (g131_0 (Prod.fst (Prod.snd x0))) = true
        · rw [if_pos b2] at h
          subst h
          exact AtV.fin Try.func105 tabOk ext105Ok mixed (p105_3 v3 x0) ⟨b0, trivial, b1, trivial, b2, trivial⟩
        · rw [if_neg b2] at h
          replace b2 := Bool.eq_false_iff.2 b2
          subst h
          exact AtV.fin Try.func105 tabOk ext105Ok mixed (p105_4 v3 x0) ⟨b0, trivial, b1, trivial, b2, trivial⟩
      · rw [if_neg b1] at h
        replace b1 := Bool.eq_false_iff.2 b1
        subst h
        exact AtV.fin Try.func105 tabOk ext105Ok mixed (p105_5 v3 x0) ⟨b0, trivial, b1, rfl, trivial⟩



def g105_0 (x0 : ByteArray × ByteArray × ByteArray × Unit) : Bool := (bytesOf x0.2.2.1).all (fun b => !(b == 10)) && g131_0 x0.1 && g131_0 x0.2.1 && decide (x0.2.2.1.size ≤ 400)
def P105 (x0 : ByteArray × ByteArray × ByteArray × Unit) : Prop := True

theorem top105 (x0 : ByteArray × ByteArray × ByteArray × Unit) (hw : Wf (.cons .str (.cons .str (.cons .str .unit))) x0) : R105 (x0.2.2.1.size + 1 + 1) x0 [⟨.bool, g105_0 x0⟩] := by
  have hl := bytesOf_length x0.2.2.1
  have hw3 : Wf .str x0.2.2.1 := hw.2.2.1
  rw [R105]
  have key := loop_test (bytesOf x0.2.2.1) 0 (fun b => !(b == 10)) [(⟨.bool, false⟩ : Dyn)] [⟨.bool, g131_0 x0.1 && g131_0 x0.2.1 && decide (x0.2.2.1.size ≤ 400)⟩] (fun n i ds => R105_2 n i x0 ds) (fun n => ?_) (fun n i hi hok ds hr => ?_) (fun n i hi hok => ?_)
  · rw [hl] at key
    unfold g105_0
    cases h : (bytesOf x0.2.2.1).all fun b => !(b == 10) with
    | true => rw [if_pos h] at key; simpa using key
    | false => rw [if_neg (by rw [h]; simp)] at key; simpa using key
  · show R105_2 (n + 1) ((bytesOf x0.2.2.1).length : Int) x0 _
    rw [R105_2, hl, if_neg (by simp)]
    have hc : decide ((x0.2.2.1.size : Int) ≤ 400) = decide (x0.2.2.1.size ≤ 400) := by
      congr 1; exact propext ⟨fun h => by omega, fun h => by omega⟩
    rw [hc]
    cases g131_0 x0.1 <;> cases g131_0 x0.2.1 <;> simp
  · rw [R105_2, if_pos (by simp; omega)]
    simp only [Int.toNat_natCast, byte_get]
    refine ⟨by omega, by omega, ?_⟩
    rw [if_neg (by intro h; rw [h] at hok; cases hok)]
    exact ⟨inR_up (xs := bytesOf x0.2.2.1) (by rw [hl]; exact hw3) hi, hr⟩
  · rw [R105_2, if_pos (by simp; omega)]
    simp only [Int.toNat_natCast, byte_get]
    refine ⟨by omega, by omega, ?_⟩
    rw [if_pos (by rw [Bool.not_eq_false'] at hok; exact hok)] <;> trivial

def S105 : Am.Spec := { sig := sig105, pre := fun ⟨x0, _⟩ => P105 x0, res := fun ⟨x0, _⟩ => [⟨Ty.bool, g105_0 x0⟩] }
theorem con105 : Contract Try.prog 105 S105 := contract_of Try.func105 hb105 (Nat.le_of_ble_eq_true (by kernel_rfl)) (fun ⟨x0, _⟩ h hwf w0 O q =>
  (snd105 _).1 x0 _ (top105 x0 hwf.1) w0 O q)

end Go.Proofs.Ytjkeinpcphkfbaa

/- Function 115 (spec.l29Before): its runs between cut points. Written by a program of this repo (gen). -/
set_option linter.unusedVariables false
set_option linter.unusedSimpArgs false
set_option maxRecDepth 100000
namespace Go.Proofs.Ytjkeinpcphkfbaa
open Go Go.Am Go.Proofs
def ext115 : Ext := []
theorem ext115Ok : ExtOk Try.prog ext115 := trivial
/-! Function 115. -/
noncomputable def b115 : Code := bodyOf Try.f115
theorem hb115 : Try.f115.body = some b115 := by kernel_rfl
def sig115 : List AT := [AT.p (Ty.cons Ty.str (Ty.cons Ty.str (Ty.cons Ty.str Ty.unit))), AT.p (Ty.cons Ty.str (Ty.cons Ty.str (Ty.cons Ty.str Ty.unit)))]
def tys115 : List Ty := [Ty.bool]
def P115 (x0 : ByteArray × ByteArray × ByteArray × Unit) (x1 : ByteArray × ByteArray × ByteArray × Unit) : Prop := True
def g115_0 (x0 : ByteArray × ByteArray × ByteArray × Unit) (x1 : ByteArray × ByteArray × ByteArray × Unit) : Bool := (if (Op.bytesLess (ByteArray.toList (Prod.fst x0)) (ByteArray.toList (Prod.fst x1))) = true then Bool.true else (if (ByteArray.toList (Prod.fst x0) == ByteArray.toList (Prod.fst x1)) = true then Op.bytesLess (ByteArray.toList (Prod.fst (Prod.snd x0))) (ByteArray.toList (Prod.fst (Prod.snd x1))) else Bool.false))
theorem p115_0 (x0 : ByteArray × ByteArray × ByteArray × Unit) (x1 : ByteArray × ByteArray × ByteArray × Unit) : runF tab ext115 false 36 [] 2000 [] tys115 Try.f115.results [true] [.code b115] (entE 0 0 sig115 (x0, x1, ())) (entL sig115 (x0, x1, ())) = some ([Dyn.mk Ty.bool Bool.true], [], [Op.bytesLess (ByteArray.toList (Prod.fst x0)) (ByteArray.toList (Prod.fst x1)) = Bool.true]) := by kernel_rfl
theorem p115_1 (x0 : ByteArray × ByteArray × ByteArray × Unit) (x1 : ByteArray × ByteArray × ByteArray × Unit) : runF tab ext115 false 36 [] 2000 [] tys115 Try.f115.results [false, true] [.code b115] (entE 0 0 sig115 (x0, x1, ())) (entL sig115 (x0, x1, ())) = some ([Dyn.mk Ty.bool (Op.bytesLess (ByteArray.toList (Prod.fst (Prod.snd x0))) (ByteArray.toList (Prod.fst (Prod.snd x1))))], [], [Op.bytesLess (ByteArray.toList (Prod.fst x0)) (ByteArray.toList (Prod.fst x1)) = Bool.false, (ByteArray.toList (Prod.fst x0) == ByteArray.toList (Prod.fst x1)) = Bool.true]) := by kernel_rfl
theorem p115_2 (x0 : ByteArray × ByteArray × ByteArray × Unit) (x1 : ByteArray × ByteArray × ByteArray × Unit) : runF tab ext115 false 36 [] 2000 [] tys115 Try.f115.results [false, false] [.code b115] (entE 0 0 sig115 (x0, x1, ())) (entL sig115 (x0, x1, ())) = some ([Dyn.mk Ty.bool Bool.false], [], [Op.bytesLess (ByteArray.toList (Prod.fst x0)) (ByteArray.toList (Prod.fst x1)) = Bool.false, (ByteArray.toList (Prod.fst x0) == ByteArray.toList (Prod.fst x1)) = Bool.false]) := by kernel_rfl
theorem at115 (x0 : ByteArray × ByteArray × ByteArray × Unit) (x1 : ByteArray × ByteArray × ByteArray × Unit) (h : P115 x0 x1) (w0 : World) (O : List Nat) (q : Nat → Value) : AtV Try.prog 115 (PostR [⟨Ty.bool, g115_0 x0 x1⟩] [] [] q w0 O) 36 w0 O q [] [.code b115] (entE 0 0 sig115 (x0, x1, ())) (entL sig115 (x0, x1, ())) := by
  unfold P115 at h
  unfold g115_0
  by_cases b0 : (Op.bytesLess (ByteArray.toList (Prod.fst x0)) (ByteArray.toList (Prod.fst x1))) = true
  · try simp only [if_pos b0] at h ⊢
    exact AtV.fin Try.func115 tabOk ext115Ok mixed (p115_0 x0 x1) ⟨b0, trivial⟩
  · try simp only [if_neg b0] at h ⊢
    replace b0 := Bool.eq_false_iff.2 b0
    by_cases b1 : (ByteArray.toList (Prod.fst x0) == ByteArray.toList (Prod.fst x1)) = true
    · try simp only [if_pos b1] at h ⊢
      exact AtV.fin Try.func115 tabOk ext115Ok mixed (p115_1 x0 x1) ⟨b0, b1, trivial⟩
    · try simp only [if_neg b1] at h ⊢
      replace b1 := Bool.eq_false_iff.2 b1
      exact AtV.fin Try.func115 tabOk ext115Ok mixed (p115_2 x0 x1) ⟨b0, b1, trivial⟩

def S115 : Am.Spec := { sig := sig115, pre := fun ⟨x0, x1, _⟩ => P115 x0 x1, res := fun ⟨x0, x1, _⟩ => [⟨Ty.bool, g115_0 x0 x1⟩] }
theorem con115 : Contract Try.prog 115 S115 := contract_of Try.func115 hb115 (Nat.le_of_ble_eq_true (by kernel_rfl)) (fun ⟨x0, x1, _⟩ h _ w0 O q => at115 x0 x1 h w0 O q)


end Go.Proofs.Ytjkeinpcphkfbaa

/- Function 83 (spec.l29Ok): its runs between cut points. Written by a program of this repo (gen). -/
set_option linter.unusedVariables false
set_option linter.unusedSimpArgs false
set_option maxRecDepth 100000
namespace Go.Proofs.Ytjkeinpcphkfbaa
open Go Go.Am Go.Proofs
def ext83 : Ext := [(105, S105), (115, S115)]
theorem call83_105 : Callable Try.prog 105 := ⟨Try.f105, Try.func105, by kernel_rfl, by kernel_rfl⟩
theorem call83_115 : Callable Try.prog 115 := ⟨Try.f115, Try.func115, by kernel_rfl, by kernel_rfl⟩
theorem ext83Ok : ExtOk Try.prog ext83 := ⟨⟨call83_105, con105⟩, ⟨call83_115, con115⟩, trivial⟩
/-! Function 83. -/
noncomputable def b83 : Code := bodyOf Try.f83
theorem hb83 : Try.f83.body = some b83 := by kernel_rfl
def sig83 : List AT := [AT.v (Ty.sl (Ty.cons Ty.str (Ty.cons Ty.str (Ty.cons Ty.str Ty.unit))))]
def tys83 : List Ty := [Ty.bool]
def E83_2 (v3 : Int) (x0 : List (ByteArray × ByteArray × ByteArray × Unit)) : Env := [(0, PV.a (Atom.sl (Ty.cons Ty.str (Ty.cons Ty.str (Ty.cons Ty.str Ty.unit))) x0)), (3, PV.a (Atom.val (Value.int IntKind.i64 v3)))]
def L83_2 (v3 : Int) (x0 : List (ByteArray × ByteArray × ByteArray × Unit)) : Heap := []
mutual
def R83 : Nat → List (ByteArray × ByteArray × ByteArray × Unit) → List Dyn → Prop
  | 0, _, _ => False
  | n + 1, x0, ds => (R83_2 n (0) (x0) ds)
def R83_2 : Nat → Int → List (ByteArray × ByteArray × ByteArray × Unit) → List Dyn → Prop
  | 0, _, _, _ => False
  | n + 1, v3, x0, ds => (if (Decidable.decide (v3 < (↑(List.length x0) : Int))) = true then ((0 ≤ v3) ∧ (v3 < (↑(List.length x0) : Int)) ∧ (if (!g105_0 (List.getD x0 (Int.toNat v3) (ByteArray.empty, ByteArray.empty, ByteArray.empty, ()))) = true then (ds = [Dyn.mk Ty.bool Bool.false]) else (if (Decidable.decide (v3 > 0)) = true then ((InR IntKind.i64 (v3 - 1)) ∧ ((0 ≤ v3 - 1) ∧ (v3 - 1 < (↑(List.length x0) : Int)) ∧ ((0 ≤ v3) ∧ (v3 < (↑(List.length x0) : Int)) ∧ (if (!g115_0 (List.getD x0 (Int.toNat (v3 - 1)) (ByteArray.empty, ByteArray.empty, ByteArray.empty, ())) (List.getD x0 (Int.toNat v3) (ByteArray.empty, ByteArray.empty, ByteArray.empty, ()))) = true then (ds = [Dyn.mk Ty.bool Bool.false]) else ((InR IntKind.i64 (v3 + 1)) ∧ (R83_2 n (v3 + 1) (x0) ds)))))) else ((InR IntKind.i64 (v3 + 1)) ∧ (R83_2 n (v3 + 1) (x0) ds))))) else (ds = [Dyn.mk Ty.bool (Decidable.decide ((↑(List.length x0) : Int) ≤ 32))]))
end
theorem p83_0 (x0 : List (ByteArray × ByteArray × ByteArray × Unit)) : Am.runN tab ext83 false 33 [] 2000 [] [] [0, 3] [] [] [.code b83] (entE 0 0 sig83 (x0, ())) (entL sig83 (x0, ())) = some (cutAt b83 2, E83_2 (0) (x0), L83_2 (0) (x0), []) := by kernel_rfl
theorem p83_1 (v3 : Int) (x0 : List (ByteArray × ByteArray × ByteArray × Unit)) : runF tab ext83 false 33 [] 2000 [] tys83 Try.f83.results [true, true, true] (cutAt b83 2) (E83_2 v3 x0) (L83_2 v3 x0) = some ([Dyn.mk Ty.bool Bool.false], [], [Decidable.decide (v3 < (↑(List.length x0) : Int)) = Bool.true, 0 ≤ v3, v3 < (↑(List.length x0) : Int), True, (!g105_0 (List.getD x0 (Int.toNat v3) (ByteArray.empty, ByteArray.empty, ByteArray.empty, ()))) = Bool.true, Bool.true = Bool.true]) := by kernel_rfl
theorem p83_2 (v3 : Int) (x0 : List (ByteArray × ByteArray × ByteArray × Unit)) : runF tab ext83 false 33 [] 2000 [] tys83 Try.f83.results [true, false, true, true] (cutAt b83 2) (E83_2 v3 x0) (L83_2 v3 x0) = some ([Dyn.mk Ty.bool Bool.false], [], [Decidable.decide (v3 < (↑(List.length x0) : Int)) = Bool.true, 0 ≤ v3, v3 < (↑(List.length x0) : Int), True, (!g105_0 (List.getD x0 (Int.toNat v3) (ByteArray.empty, ByteArray.empty, ByteArray.empty, ()))) = Bool.false, Decidable.decide (v3 > 0) = Bool.true, InR IntKind.i64 (v3 - 1), 0 ≤ v3 - 1, v3 - 1 < (↑(List.length x0) : Int), 0 ≤ v3, v3 < (↑(List.length x0) : Int), True, (!g115_0 (List.getD x0 (Int.toNat (v3 - 1)) (ByteArray.empty, ByteArray.empty, ByteArray.empty, ())) (List.getD x0 (Int.toNat v3) (ByteArray.empty, ByteArray.empty, ByteArray.empty, ()))) = Bool.true]) := by kernel_rfl
theorem p83_3 (v3 : Int) (x0 : List (ByteArray × ByteArray × ByteArray × Unit)) : Am.runN tab ext83 false 33 [] 2000 [] [] [0, 3] [] [true, false, true, false] (cutAt b83 2) (E83_2 v3 x0) (L83_2 v3 x0) = some (cutAt b83 2, E83_2 (v3 + 1) (x0), L83_2 (v3 + 1) (x0), [Decidable.decide (v3 < (↑(List.length x0) : Int)) = Bool.true, 0 ≤ v3, v3 < (↑(List.length x0) : Int), True, (!g105_0 (List.getD x0 (Int.toNat v3) (ByteArray.empty, ByteArray.empty, ByteArray.empty, ()))) = Bool.false, Decidable.decide (v3 > 0) = Bool.true, InR IntKind.i64 (v3 - 1), 0 ≤ v3 - 1, v3 - 1 < (↑(List.length x0) : Int), 0 ≤ v3, v3 < (↑(List.length x0) : Int), True, (!g115_0 (List.getD x0 (Int.toNat (v3 - 1)) (ByteArray.empty, ByteArray.empty, ByteArray.empty, ())) (List.getD x0 (Int.toNat v3) (ByteArray.empty, ByteArray.empty, ByteArray.empty, ()))) = Bool.false, InR IntKind.i64 (v3 + 1)]) := by kernel_rfl
theorem p83_4 (v3 : Int) (x0 : List (ByteArray × ByteArray × ByteArray × Unit)) : Am.runN tab ext83 false 33 [] 2000 [] [] [0, 3] [] [true, false, false, false] (cutAt b83 2) (E83_2 v3 x0) (L83_2 v3 x0) = some (cutAt b83 2, E83_2 (v3 + 1) (x0), L83_2 (v3 + 1) (x0), [Decidable.decide (v3 < (↑(List.length x0) : Int)) = Bool.true, 0 ≤ v3, v3 < (↑(List.length x0) : Int), True, (!g105_0 (List.getD x0 (Int.toNat v3) (ByteArray.empty, ByteArray.empty, ByteArray.empty, ()))) = Bool.false, Decidable.decide (v3 > 0) = Bool.false, Bool.false = Bool.false, InR IntKind.i64 (v3 + 1)]) := by kernel_rfl
theorem p83_5 (v3 : Int) (x0 : List (ByteArray × ByteArray × ByteArray × Unit)) : runF tab ext83 false 33 [] 2000 [] tys83 Try.f83.results [false] (cutAt b83 2) (E83_2 v3 x0) (L83_2 v3 x0) = some ([Dyn.mk Ty.bool (Decidable.decide ((↑(List.length x0) : Int) ≤ 32))], [], [Decidable.decide (v3 < (↑(List.length x0) : Int)) = Bool.false]) := by kernel_rfl
theorem snd83 : ∀ n, (∀ (x0 : List (ByteArray × ByteArray × ByteArray × Unit)) ds, R83 n x0 ds → ∀ w0 O q, AtV Try.prog 83 (PostR ds [] [] q w0 O) 33 w0 O q [] [.code b83] (entE 0 0 sig83 (x0, ())) (entL sig83 (x0, ()))) ∧ (∀ (v3 : Int) (x0 : List (ByteArray × ByteArray × ByteArray × Unit)) ds, R83_2 n v3 x0 ds → ∀ w0 O q, AtV Try.prog 83 (PostR ds [] [] q w0 O) 33 w0 O q [] (cutAt b83 2) (E83_2 v3 x0) (L83_2 v3 x0)) := by
  intro n
  induction n with
  | zero => exact ⟨fun _ _ h => by simp only [R83] at h, fun _ _ _ h => by simp only [R83_2] at h⟩
  | succ n ih =>
  obtain ⟨ih, ih2⟩ := ih
  refine ⟨?_, ?_⟩
  · intro x0 ds h w0 O q
    rw [R83] at h
    exact AtV.runN tabOk ext83Ok mixed (p83_0 x0) trivial (ih2 _ _ _ h w0 O q)

  · intro v3 x0 ds h w0 O q
    rw [R83_2] at h
    by_cases b0 : (Decidable.decide (v3 < (↑(List.length x0) : Int))) = true
    · rw [if_pos b0] at h
      obtain ⟨s0, s1, h⟩ := h
      by_cases b1 : (!g105_0 (List.getD x0 (Int.toNat v3) (ByteArray.empty, ByteArray.empty, ByteArray.empty, ()))) = true
      · rw [if_pos b1] at h
        subst h
        exact AtV.fin Try.func83 tabOk ext83Ok mixed (p83_1 v3 x0) ⟨b0, s0, s1, trivial, b1, rfl, trivial⟩
      · rw [if_neg b1] at h
        replace b1 := Bool.eq_false_iff.2 b1
        by_cases b2 : (Decidable.decide (v3 > 0)) = true
        · rw [if_pos b2] at h
          obtain ⟨s2, h⟩ := h
          obtain ⟨s3, s4, h⟩ := h
          obtain ⟨s5, s6, h⟩ := h
          by_cases b3 : (!g115_0 (List.getD x0 (Int.toNat (v3 - 1)) (ByteArray.empty, ByteArray.empty, ByteArray.empty, ())) (List.getD x0 (Int.toNat v3) (ByteArray.empty, ByteArray.empty, ByteArray.empty, ()))) = true
          · rw [if_pos b3] at h
            subst h
            exact AtV.fin Try.func83 tabOk ext83Ok mixed (p83_2 v3 x0) ⟨b0, s0, s1, trivial, b1, b2, s2, s3, s4, s5, s6, trivial, b3, trivial⟩
          · rw [if_neg b3] at h
            replace b3 := Bool.eq_false_iff.2 b3
            obtain ⟨s7, h⟩ := h
            exact AtV.runN tabOk ext83Ok mixed (p83_3 v3 x0) ⟨b0, s0, s1, trivial, b1, b2, s2, s3, s4, s5, s6, trivial, b3, s7, trivial⟩ (ih2 _ _ _ h w0 O q)
        · rw [if_neg b2] at h
          replace b2 := Bool.eq_false_iff.2 b2
          obtain ⟨s2, h⟩ := h
          exact AtV.runN tabOk ext83Ok mixed (p83_4 v3 x0) ⟨b0, s0, s1, trivial, b1, b2, rfl, s2, trivial⟩ (ih2 _ _ _ h w0 O q)
    · rw [if_neg b0] at h
      replace b0 := Bool.eq_false_iff.2 b0
      subst h
      exact AtV.fin Try.func83 tabOk ext83Ok mixed (p83_5 v3 x0) ⟨b0, trivial⟩



/-- A block at its place. -/
def ok83 (x0 : List (ByteArray × ByteArray × ByteArray × Unit)) (i : Nat) (x : ByteArray × ByteArray × ByteArray × Unit) : Bool :=
  g105_0 x && (i == 0 || g115_0 (x0.getD (i - 1) (ByteArray.empty, ByteArray.empty, ByteArray.empty, ())) x)
def g83_0 (x0 : List (ByteArray × ByteArray × ByteArray × Unit)) : Bool := allI (ok83 x0) 0 x0 && decide (x0.length ≤ 32)
def P83 (x0 : List (ByteArray × ByteArray × ByteArray × Unit)) : Prop := True

theorem step83 (n i : Nat) (x0 : List (ByteArray × ByteArray × ByteArray × Unit)) (hm : x0.length ≤ maxLen) (hi : i < x0.length) (ds : List Dyn) :
    (if ok83 x0 i (x0.getD i (ByteArray.empty, ByteArray.empty, ByteArray.empty, ())) = true then R83_2 n ((i : Int) + 1) x0 ds else ds = [⟨.bool, false⟩]) → R83_2 (n + 1) (i : Int) x0 ds := by
  intro h
  have hu := inR_up hm hi
  rw [R83_2, if_pos (by simp; omega)]
  refine ⟨by omega, by omega, ?_⟩
  simp only [Int.toNat_natCast]
  unfold ok83 at h
  cases h1 : g105_0 (x0.getD i (ByteArray.empty, ByteArray.empty, ByteArray.empty, ())) with
  | false =>
    rw [h1] at h
    rw [if_pos (by rfl)]
    simpa using h
  | true =>
    rw [h1] at h
    rw [if_neg (by simp)]
    by_cases h0 : (i : Int) > 0
    · rw [if_pos (by simpa using h0)]
      have hi0 : (i == 0) = false := by simp; omega
      have e : ((i : Int) - 1).toNat = i - 1 := by omega
      refine ⟨by rw [i64_iff]; have : maxLen ≤ 9223372036854775807 := by decide
                 omega, by omega, by omega, by omega, by omega, ?_⟩
      rw [e]
      by_cases h2 : g115_0 (x0.getD (i - 1) (ByteArray.empty, ByteArray.empty, ByteArray.empty, ())) (x0.getD i (ByteArray.empty, ByteArray.empty, ByteArray.empty, ())) = true
      · rw [h2, hi0] at h
        rw [if_neg (by rw [h2]; simp)]
        exact ⟨hu, by simpa using h⟩
      · have h2 := Bool.eq_false_iff.2 h2
        rw [h2, hi0] at h
        rw [if_pos (by rw [h2]; rfl)]
        simpa using h
    · rw [if_neg (by simpa using h0)]
      have hi0 : (i == 0) = true := by simp; omega
      rw [hi0] at h
      exact ⟨hu, by simpa using h⟩

theorem top83 (x0 : List (ByteArray × ByteArray × ByteArray × Unit)) (hw : x0.length ≤ maxLen) : R83 (x0.length + 1 + 1) x0 [⟨.bool, g83_0 x0⟩] := by
  rw [R83]
  have key := loop_testI x0 (ByteArray.empty, ByteArray.empty, ByteArray.empty, ()) (ok83 x0) [(⟨.bool, false⟩ : Dyn)] [⟨.bool, decide (x0.length ≤ 32)⟩] (fun n i ds => R83_2 n i x0 ds) (fun n => ?_) (fun n i hi hok ds hr => ?_) (fun n i hi hok => ?_)
  · unfold g83_0
    cases h : allI (ok83 x0) 0 x0 with
    | true => rw [if_pos h] at key; simpa using key
    | false => rw [if_neg (by rw [h]; simp)] at key; simpa using key
  · rw [R83_2, if_neg (by simp)]
    have hc : decide ((x0.length : Int) ≤ 32) = decide (x0.length ≤ 32) := by
      congr 1; exact propext ⟨fun h => by omega, fun h => by omega⟩
    rw [hc]
  · exact step83 n i x0 hw hi ds (by rw [if_pos hok]; exact hr)
  · exact step83 n i x0 hw hi _ (by rw [if_neg (by rw [hok]; simp)])

def S83 : Am.Spec := { sig := sig83, pre := fun ⟨x0, _⟩ => P83 x0, res := fun ⟨x0, _⟩ => [⟨Ty.bool, g83_0 x0⟩] }
theorem con83 : Contract Try.prog 83 S83 := contract_of Try.func83 hb83 (Nat.le_of_ble_eq_true (by kernel_rfl)) (fun ⟨x0, _⟩ h hwf w0 O q =>
  (snd83 _).1 x0 _ (top83 x0 hwf.1.1) w0 O q)

end Go.Proofs.Ytjkeinpcphkfbaa

/- Function 106 (spec.l29Put): its runs between cut points. Written by a program of this repo (gen). -/
set_option linter.unusedVariables false
set_option linter.unusedSimpArgs false
set_option maxRecDepth 100000
namespace Go.Proofs.Ytjkeinpcphkfbaa
open Go Go.Am Go.Proofs
def ext106 : Ext := [(115, S115)]
theorem call106_115 : Callable Try.prog 115 := ⟨Try.f115, Try.func115, by kernel_rfl, by kernel_rfl⟩
theorem ext106Ok : ExtOk Try.prog ext106 := ⟨⟨call106_115, con115⟩, trivial⟩
/-! Function 106. -/
noncomputable def b106 : Code := bodyOf Try.f106
theorem hb106 : Try.f106.body = some b106 := by kernel_rfl
def sig106 : List AT := [AT.v (Ty.sl (Ty.cons Ty.str (Ty.cons Ty.str (Ty.cons Ty.str Ty.unit)))), AT.v (Ty.cons Ty.str (Ty.cons Ty.str (Ty.cons Ty.str Ty.unit)))]
def tys106 : List Ty := [Ty.sl (Ty.cons Ty.str (Ty.cons Ty.str (Ty.cons Ty.str Ty.unit)))]
def E106_4 (v6 : Bool) (v7 : Int) (h1 : List (ByteArray × ByteArray × ByteArray × Unit)) (x0 : List (ByteArray × ByteArray × ByteArray × Unit)) (x1 : ByteArray × ByteArray × ByteArray × Unit) : Env := [(0, PV.a (Atom.sl (Ty.cons Ty.str (Ty.cons Ty.str (Ty.cons Ty.str Ty.unit))) x0)), (3, PV.a (Atom.optr 0 0 [])), (5, PV.a (Atom.osl 1 Option.none)), (6, PV.a (Atom.val (Value.bool v6))), (7, PV.a (Atom.val (Value.int IntKind.i64 v7)))]
def L106_4 (v6 : Bool) (v7 : Int) (h1 : List (ByteArray × ByteArray × ByteArray × Unit)) (x0 : List (ByteArray × ByteArray × ByteArray × Unit)) (x1 : ByteArray × ByteArray × ByteArray × Unit) : Heap := [Option.some (Arr.mk (Ty.cons Ty.str (Ty.cons Ty.str (Ty.cons Ty.str Ty.unit))) [x1] Bool.true), Option.some (Arr.mk (Ty.cons Ty.str (Ty.cons Ty.str (Ty.cons Ty.str Ty.unit))) h1 Bool.false)]
mutual
def R106 : Nat → List (ByteArray × ByteArray × ByteArray × Unit) → ByteArray × ByteArray × ByteArray × Unit → List Dyn → Prop
  | 0, _, _, _ => False
  | n + 1, x0, x1, ds => (R106_4 n (Bool.false) (0) ([]) (x0) (x1) ds)
def R106_4 : Nat → Bool → Int → List (ByteArray × ByteArray × ByteArray × Unit) → List (ByteArray × ByteArray × ByteArray × Unit) → ByteArray × ByteArray × ByteArray × Unit → List Dyn → Prop
  | 0, _, _, _, _, _, _ => False
  | n + 1, v6, v7, h1, x0, x1, ds => (if (Decidable.decide (v7 < (↑(List.length x0) : Int))) = true then (if (!v6) = true then ((0 ≤ v7) ∧ (v7 < (↑(List.length x0) : Int)) ∧ (if (!g115_0 (List.getD x0 (Int.toNat v7) (ByteArray.empty, ByteArray.empty, ByteArray.empty, ())) x1) = true then (((List.length h1 + 1) * 48 ≤ 140737488355328) ∧ ((0 ≤ v7) ∧ (v7 < (↑(List.length x0) : Int)) ∧ (if (!ByteArray.toList (Prod.fst (List.getD x0 (Int.toNat v7) (ByteArray.empty, ByteArray.empty, ByteArray.empty, ()))) == ByteArray.toList (Prod.fst x1)) = true then ((0 ≤ v7) ∧ (v7 < (↑(List.length x0) : Int)) ∧ (((List.length (h1 ++ [x1]) + 1) * 48 ≤ 140737488355328) ∧ ((InR IntKind.i64 (v7 + 1)) ∧ (R106_4 n (Bool.true) (v7 + 1) (h1 ++ [x1] ++ [List.getD x0 (Int.toNat v7) (ByteArray.empty, ByteArray.empty, ByteArray.empty, ())]) (x0) (x1) ds)))) else ((0 ≤ v7) ∧ (v7 < (↑(List.length x0) : Int)) ∧ (if (!ByteArray.toList (Prod.fst (Prod.snd (List.getD x0 (Int.toNat v7) (ByteArray.empty, ByteArray.empty, ByteArray.empty, ())))) == ByteArray.toList (Prod.fst (Prod.snd x1))) = true then ((0 ≤ v7) ∧ (v7 < (↑(List.length x0) : Int)) ∧ (((List.length (h1 ++ [x1]) + 1) * 48 ≤ 140737488355328) ∧ ((InR IntKind.i64 (v7 + 1)) ∧ (R106_4 n (Bool.true) (v7 + 1) (h1 ++ [x1] ++ [List.getD x0 (Int.toNat v7) (ByteArray.empty, ByteArray.empty, ByteArray.empty, ())]) (x0) (x1) ds)))) else ((InR IntKind.i64 (v7 + 1)) ∧ (R106_4 n (Bool.true) (v7 + 1) (h1 ++ [x1]) (x0) (x1) ds))))))) else ((0 ≤ v7) ∧ (v7 < (↑(List.length x0) : Int)) ∧ (if (!ByteArray.toList (Prod.fst (List.getD x0 (Int.toNat v7) (ByteArray.empty, ByteArray.empty, ByteArray.empty, ()))) == ByteArray.toList (Prod.fst x1)) = true then ((0 ≤ v7) ∧ (v7 < (↑(List.length x0) : Int)) ∧ (((List.length h1 + 1) * 48 ≤ 140737488355328) ∧ ((InR IntKind.i64 (v7 + 1)) ∧ (R106_4 n (v6) (v7 + 1) (h1 ++ [List.getD x0 (Int.toNat v7) (ByteArray.empty, ByteArray.empty, ByteArray.empty, ())]) (x0) (x1) ds)))) else ((0 ≤ v7) ∧ (v7 < (↑(List.length x0) : Int)) ∧ (if (!ByteArray.toList (Prod.fst (Prod.snd (List.getD x0 (Int.toNat v7) (ByteArray.empty, ByteArray.empty, ByteArray.empty, ())))) == ByteArray.toList (Prod.fst (Prod.snd x1))) = true then ((0 ≤ v7) ∧ (v7 < (↑(List.length x0) : Int)) ∧ (((List.length h1 + 1) * 48 ≤ 140737488355328) ∧ ((InR IntKind.i64 (v7 + 1)) ∧ (R106_4 n (v6) (v7 + 1) (h1 ++ [List.getD x0 (Int.toNat v7) (ByteArray.empty, ByteArray.empty, ByteArray.empty, ())]) (x0) (x1) ds)))) else ((InR IntKind.i64 (v7 + 1)) ∧ (R106_4 n (v6) (v7 + 1) (h1) (x0) (x1) ds)))))))) else ((0 ≤ v7) ∧ (v7 < (↑(List.length x0) : Int)) ∧ (if (!ByteArray.toList (Prod.fst (List.getD x0 (Int.toNat v7) (ByteArray.empty, ByteArray.empty, ByteArray.empty, ()))) == ByteArray.toList (Prod.fst x1)) = true then ((0 ≤ v7) ∧ (v7 < (↑(List.length x0) : Int)) ∧ (((List.length h1 + 1) * 48 ≤ 140737488355328) ∧ ((InR IntKind.i64 (v7 + 1)) ∧ (R106_4 n (v6) (v7 + 1) (h1 ++ [List.getD x0 (Int.toNat v7) (ByteArray.empty, ByteArray.empty, ByteArray.empty, ())]) (x0) (x1) ds)))) else ((0 ≤ v7) ∧ (v7 < (↑(List.length x0) : Int)) ∧ (if (!ByteArray.toList (Prod.fst (Prod.snd (List.getD x0 (Int.toNat v7) (ByteArray.empty, ByteArray.empty, ByteArray.empty, ())))) == ByteArray.toList (Prod.fst (Prod.snd x1))) = true then ((0 ≤ v7) ∧ (v7 < (↑(List.length x0) : Int)) ∧ (((List.length h1 + 1) * 48 ≤ 140737488355328) ∧ ((InR IntKind.i64 (v7 + 1)) ∧ (R106_4 n (v6) (v7 + 1) (h1 ++ [List.getD x0 (Int.toNat v7) (ByteArray.empty, ByteArray.empty, ByteArray.empty, ())]) (x0) (x1) ds)))) else ((InR IntKind.i64 (v7 + 1)) ∧ (R106_4 n (v6) (v7 + 1) (h1) (x0) (x1) ds))))))) else (if (!v6) = true then (((List.length h1 + 1) * 48 ≤ 140737488355328) ∧ (ds = [Dyn.mk (Ty.sl (Ty.cons Ty.str (Ty.cons Ty.str (Ty.cons Ty.str Ty.unit)))) (h1 ++ [x1])])) else (ds = [Dyn.mk (Ty.sl (Ty.cons Ty.str (Ty.cons Ty.str (Ty.cons Ty.str Ty.unit)))) h1])))
end
theorem p106_0 (x0 : List (ByteArray × ByteArray × ByteArray × Unit)) (x1 : ByteArray × ByteArray × ByteArray × Unit) : Am.runN tab ext106 false 60 [] 2000 [] [] [0, 3, 5, 6, 7] [0, 1] [] [.code b106] (entE 0 0 sig106 (x0, x1, ())) (entL sig106 (x0, x1, ())) = some (cutAt b106 4, E106_4 (Bool.false) (0) ([]) (x0) (x1), L106_4 (Bool.false) (0) ([]) (x0) (x1), []) := by kernel_rfl
theorem p106_1 (v6 : Bool) (v7 : Int) (h1 : List (ByteArray × ByteArray × ByteArray × Unit)) (x0 : List (ByteArray × ByteArray × ByteArray × Unit)) (x1 : ByteArray × ByteArray × ByteArray × Unit) : Am.runN tab ext106 false 60 [] 2000 [] [] [0, 3, 5, 6, 7] [0, 1] [true, true, true, true, true] (cutAt b106 4) (E106_4 v6 v7 h1 x0 x1) (L106_4 v6 v7 h1 x0 x1) = some (cutAt b106 4, E106_4 (Bool.true) (v7 + 1) (h1 ++ [x1] ++ [List.getD x0 (Int.toNat v7) (ByteArray.empty, ByteArray.empty, ByteArray.empty, ())]) (x0) (x1), L106_4 (Bool.true) (v7 + 1) (h1 ++ [x1] ++ [List.getD x0 (Int.toNat v7) (ByteArray.empty, ByteArray.empty, ByteArray.empty, ())]) (x0) (x1), [Decidable.decide (v7 < (↑(List.length x0) : Int)) = Bool.true, (!v6) = Bool.true, 0 ≤ v7, v7 < (↑(List.length x0) : Int), True, (!g115_0 (List.getD x0 (Int.toNat v7) (ByteArray.empty, ByteArray.empty, ByteArray.empty, ())) x1) = Bool.true, (List.length h1 + 1) * 48 ≤ 140737488355328, 0 ≤ v7, v7 < (↑(List.length x0) : Int), (!ByteArray.toList (Prod.fst (List.getD x0 (Int.toNat v7) (ByteArray.empty, ByteArray.empty, ByteArray.empty, ()))) == ByteArray.toList (Prod.fst x1)) = Bool.true, Bool.true = Bool.true, 0 ≤ v7, v7 < (↑(List.length x0) : Int), (List.length (h1 ++ [x1]) + 1) * 48 ≤ 140737488355328, InR IntKind.i64 (v7 + 1)]) := by kernel_rfl
theorem p106_2 (v6 : Bool) (v7 : Int) (h1 : List (ByteArray × ByteArray × ByteArray × Unit)) (x0 : List (ByteArray × ByteArray × ByteArray × Unit)) (x1 : ByteArray × ByteArray × ByteArray × Unit) : Am.runN tab ext106 false 60 [] 2000 [] [] [0, 3, 5, 6, 7] [0, 1] [true, true, true, false, true] (cutAt b106 4) (E106_4 v6 v7 h1 x0 x1) (L106_4 v6 v7 h1 x0 x1) = some (cutAt b106 4, E106_4 (Bool.true) (v7 + 1) (h1 ++ [x1] ++ [List.getD x0 (Int.toNat v7) (ByteArray.empty, ByteArray.empty, ByteArray.empty, ())]) (x0) (x1), L106_4 (Bool.true) (v7 + 1) (h1 ++ [x1] ++ [List.getD x0 (Int.toNat v7) (ByteArray.empty, ByteArray.empty, ByteArray.empty, ())]) (x0) (x1), [Decidable.decide (v7 < (↑(List.length x0) : Int)) = Bool.true, (!v6) = Bool.true, 0 ≤ v7, v7 < (↑(List.length x0) : Int), True, (!g115_0 (List.getD x0 (Int.toNat v7) (ByteArray.empty, ByteArray.empty, ByteArray.empty, ())) x1) = Bool.true, (List.length h1 + 1) * 48 ≤ 140737488355328, 0 ≤ v7, v7 < (↑(List.length x0) : Int), (!ByteArray.toList (Prod.fst (List.getD x0 (Int.toNat v7) (ByteArray.empty, ByteArray.empty, ByteArray.empty, ()))) == ByteArray.toList (Prod.fst x1)) = Bool.false, 0 ≤ v7, v7 < (↑(List.length x0) : Int), (!ByteArray.toList (Prod.fst (Prod.snd (List.getD x0 (Int.toNat v7) (ByteArray.empty, ByteArray.empty, ByteArray.empty, ())))) == ByteArray.toList (Prod.fst (Prod.snd x1))) = Bool.true, 0 ≤ v7, v7 < (↑(List.length x0) : Int), (List.length (h1 ++ [x1]) + 1) * 48 ≤ 140737488355328, InR IntKind.i64 (v7 + 1)]) := by kernel_rfl
theorem p106_3 (v6 : Bool) (v7 : Int) (h1 : List (ByteArray × ByteArray × ByteArray × Unit)) (x0 : List (ByteArray × ByteArray × ByteArray × Unit)) (x1 : ByteArray × ByteArray × ByteArray × Unit) : Am.runN tab ext106 false 60 [] 2000 [] [] [0, 3, 5, 6, 7] [0, 1] [true, true, true, false, false] (cutAt b106 4) (E106_4 v6 v7 h1 x0 x1) (L106_4 v6 v7 h1 x0 x1) = some (cutAt b106 4, E106_4 (Bool.true) (v7 + 1) (h1 ++ [x1]) (x0) (x1), L106_4 (Bool.true) (v7 + 1) (h1 ++ [x1]) (x0) (x1), [Decidable.decide (v7 < (↑(List.length x0) : Int)) = Bool.true, (!v6) = Bool.true, 0 ≤ v7, v7 < (↑(List.length x0) : Int), True, (!g115_0 (List.getD x0 (Int.toNat v7) (ByteArray.empty, ByteArray.empty, ByteArray.empty, ())) x1) = Bool.true, (List.length h1 + 1) * 48 ≤ 140737488355328, 0 ≤ v7, v7 < (↑(List.length x0) : Int), (!ByteArray.toList (Prod.fst (List.getD x0 (Int.toNat v7) (ByteArray.empty, ByteArray.empty, ByteArray.empty, ()))) == ByteArray.toList (Prod.fst x1)) = Bool.false, 0 ≤ v7, v7 < (↑(List.length x0) : Int), (!ByteArray.toList (Prod.fst (Prod.snd (List.getD x0 (Int.toNat v7) (ByteArray.empty, ByteArray.empty, ByteArray.empty, ())))) == ByteArray.toList (Prod.fst (Prod.snd x1))) = Bool.false, InR IntKind.i64 (v7 + 1)]) := by kernel_rfl
theorem p106_4 (v6 : Bool) (v7 : Int) (h1 : List (ByteArray × ByteArray × ByteArray × Unit)) (x0 : List (ByteArray × ByteArray × ByteArray × Unit)) (x1 : ByteArray × ByteArray × ByteArray × Unit) : Am.runN tab ext106 false 60 [] 2000 [] [] [0, 3, 5, 6, 7] [0, 1] [true, true, false, true, true] (cutAt b106 4) (E106_4 v6 v7 h1 x0 x1) (L106_4 v6 v7 h1 x0 x1) = some (cutAt b106 4, E106_4 (v6) (v7 + 1) (h1 ++ [List.getD x0 (Int.toNat v7) (ByteArray.empty, ByteArray.empty, ByteArray.empty, ())]) (x0) (x1), L106_4 (v6) (v7 + 1) (h1 ++ [List.getD x0 (Int.toNat v7) (ByteArray.empty, ByteArray.empty, ByteArray.empty, ())]) (x0) (x1), [Decidable.decide (v7 < (↑(List.length x0) : Int)) = Bool.true, (!v6) = Bool.true, 0 ≤ v7, v7 < (↑(List.length x0) : Int), True, (!g115_0 (List.getD x0 (Int.toNat v7) (ByteArray.empty, ByteArray.empty, ByteArray.empty, ())) x1) = Bool.false, 0 ≤ v7, v7 < (↑(List.length x0) : Int), (!ByteArray.toList (Prod.fst (List.getD x0 (Int.toNat v7) (ByteArray.empty, ByteArray.empty, ByteArray.empty, ()))) == ByteArray.toList (Prod.fst x1)) = Bool.true, Bool.true = Bool.true, 0 ≤ v7, v7 < (↑(List.length x0) : Int), (List.length h1 + 1) * 48 ≤ 140737488355328, InR IntKind.i64 (v7 + 1)]) := by kernel_rfl
theorem p106_5 (v6 : Bool) (v7 : Int) (h1 : List (ByteArray × ByteArray × ByteArray × Unit)) (x0 : List (ByteArray × ByteArray × ByteArray × Unit)) (x1 : ByteArray × ByteArray × ByteArray × Unit) : Am.runN tab ext106 false 60 [] 2000 [] [] [0, 3, 5, 6, 7] [0, 1] [true, true, false, false, true] (cutAt b106 4) (E106_4 v6 v7 h1 x0 x1) (L106_4 v6 v7 h1 x0 x1) = some (cutAt b106 4, E106_4 (v6) (v7 + 1) (h1 ++ [List.getD x0 (Int.toNat v7) (ByteArray.empty, ByteArray.empty, ByteArray.empty, ())]) (x0) (x1), L106_4 (v6) (v7 + 1) (h1 ++ [List.getD x0 (Int.toNat v7) (ByteArray.empty, ByteArray.empty, ByteArray.empty, ())]) (x0) (x1), [Decidable.decide (v7 < (↑(List.length x0) : Int)) = Bool.true, (!v6) = Bool.true, 0 ≤ v7, v7 < (↑(List.length x0) : Int), True, (!g115_0 (List.getD x0 (Int.toNat v7) (ByteArray.empty, ByteArray.empty, ByteArray.empty, ())) x1) = Bool.false, 0 ≤ v7, v7 < (↑(List.length x0) : Int), (!ByteArray.toList (Prod.fst (List.getD x0 (Int.toNat v7) (ByteArray.empty, ByteArray.empty, ByteArray.empty, ()))) == ByteArray.toList (Prod.fst x1)) = Bool.false, 0 ≤ v7, v7 < (↑(List.length x0) : Int), (!ByteArray.toList (Prod.fst (Prod.snd (List.getD x0 (Int.toNat v7) (ByteArray.empty, ByteArray.empty, ByteArray.empty, ())))) == ByteArray.toList (Prod.fst (Prod.snd x1))) = Bool.true, 0 ≤ v7, v7 < (↑(List.length x0) : Int), (List.length h1 + 1) * 48 ≤ 140737488355328, InR IntKind.i64 (v7 + 1)]) := by kernel_rfl
theorem p106_6 (v6 : Bool) (v7 : Int) (h1 : List (ByteArray × ByteArray × ByteArray × Unit)) (x0 : List (ByteArray × ByteArray × ByteArray × Unit)) (x1 : ByteArray × ByteArray × ByteArray × Unit) : Am.runN tab ext106 false 60 [] 2000 [] [] [0, 3, 5, 6, 7] [0, 1] [true, true, false, false, false] (cutAt b106 4) (E106_4 v6 v7 h1 x0 x1) (L106_4 v6 v7 h1 x0 x1) = some (cutAt b106 4, E106_4 (v6) (v7 + 1) (h1) (x0) (x1), L106_4 (v6) (v7 + 1) (h1) (x0) (x1), [Decidable.decide (v7 < (↑(List.length x0) : Int)) = Bool.true, (!v6) = Bool.true, 0 ≤ v7, v7 < (↑(List.length x0) : Int), True, (!g115_0 (List.getD x0 (Int.toNat v7) (ByteArray.empty, ByteArray.empty, ByteArray.empty, ())) x1) = Bool.false, 0 ≤ v7, v7 < (↑(List.length x0) : Int), (!ByteArray.toList (Prod.fst (List.getD x0 (Int.toNat v7) (ByteArray.empty, ByteArray.empty, ByteArray.empty, ()))) == ByteArray.toList (Prod.fst x1)) = Bool.false, 0 ≤ v7, v7 < (↑(List.length x0) : Int), (!ByteArray.toList (Prod.fst (Prod.snd (List.getD x0 (Int.toNat v7) (ByteArray.empty, ByteArray.empty, ByteArray.empty, ())))) == ByteArray.toList (Prod.fst (Prod.snd x1))) = Bool.false, InR IntKind.i64 (v7 + 1)]) := by kernel_rfl
theorem p106_7 (v6 : Bool) (v7 : Int) (h1 : List (ByteArray × ByteArray × ByteArray × Unit)) (x0 : List (ByteArray × ByteArray × ByteArray × Unit)) (x1 : ByteArray × ByteArray × ByteArray × Unit) : Am.runN tab ext106 false 60 [] 2000 [] [] [0, 3, 5, 6, 7] [0, 1] [true, false, false, true, true] (cutAt b106 4) (E106_4 v6 v7 h1 x0 x1) (L106_4 v6 v7 h1 x0 x1) = some (cutAt b106 4, E106_4 (v6) (v7 + 1) (h1 ++ [List.getD x0 (Int.toNat v7) (ByteArray.empty, ByteArray.empty, ByteArray.empty, ())]) (x0) (x1), L106_4 (v6) (v7 + 1) (h1 ++ [List.getD x0 (Int.toNat v7) (ByteArray.empty, ByteArray.empty, ByteArray.empty, ())]) (x0) (x1), [Decidable.decide (v7 < (↑(List.length x0) : Int)) = Bool.true, (!v6) = Bool.false, Bool.false = Bool.false, 0 ≤ v7, v7 < (↑(List.length x0) : Int), (!ByteArray.toList (Prod.fst (List.getD x0 (Int.toNat v7) (ByteArray.empty, ByteArray.empty, ByteArray.empty, ()))) == ByteArray.toList (Prod.fst x1)) = Bool.true, Bool.true = Bool.true, 0 ≤ v7, v7 < (↑(List.length x0) : Int), (List.length h1 + 1) * 48 ≤ 140737488355328, InR IntKind.i64 (v7 + 1)]) := by kernel_rfl
theorem p106_8 (v6 : Bool) (v7 : Int) (h1 : List (ByteArray × ByteArray × ByteArray × Unit)) (x0 : List (ByteArray × ByteArray × ByteArray × Unit)) (x1 : ByteArray × ByteArray × ByteArray × Unit) : Am.runN tab ext106 false 60 [] 2000 [] [] [0, 3, 5, 6, 7] [0, 1] [true, false, false, false, true] (cutAt b106 4) (E106_4 v6 v7 h1 x0 x1) (L106_4 v6 v7 h1 x0 x1) = some (cutAt b106 4, E106_4 (v6) (v7 + 1) (h1 ++ [List.getD x0 (Int.toNat v7) (ByteArray.empty, ByteArray.empty, ByteArray.empty, ())]) (x0) (x1), L106_4 (v6) (v7 + 1) (h1 ++ [List.getD x0 (Int.toNat v7) (ByteArray.empty, ByteArray.empty, ByteArray.empty, ())]) (x0) (x1), [Decidable.decide (v7 < (↑(List.length x0) : Int)) = Bool.true, (!v6) = Bool.false, Bool.false = Bool.false, 0 ≤ v7, v7 < (↑(List.length x0) : Int), (!ByteArray.toList (Prod.fst (List.getD x0 (Int.toNat v7) (ByteArray.empty, ByteArray.empty, ByteArray.empty, ()))) == ByteArray.toList (Prod.fst x1)) = Bool.false, 0 ≤ v7, v7 < (↑(List.length x0) : Int), (!ByteArray.toList (Prod.fst (Prod.snd (List.getD x0 (Int.toNat v7) (ByteArray.empty, ByteArray.empty, ByteArray.empty, ())))) == ByteArray.toList (Prod.fst (Prod.snd x1))) = Bool.true, 0 ≤ v7, v7 < (↑(List.length x0) : Int), (List.length h1 + 1) * 48 ≤ 140737488355328, InR IntKind.i64 (v7 + 1)]) := by kernel_rfl
theorem p106_9 (v6 : Bool) (v7 : Int) (h1 : List (ByteArray × ByteArray × ByteArray × Unit)) (x0 : List (ByteArray × ByteArray × ByteArray × Unit)) (x1 : ByteArray × ByteArray × ByteArray × Unit) : Am.runN tab ext106 false 60 [] 2000 [] [] [0, 3, 5, 6, 7] [0, 1] [true, false, false, false, false] (cutAt b106 4) (E106_4 v6 v7 h1 x0 x1) (L106_4 v6 v7 h1 x0 x1) = some (cutAt b106 4, E106_4 (v6) (v7 + 1) (h1) (x0) (x1), L106_4 (v6) (v7 + 1) (h1) (x0) (x1), [Decidable.decide (v7 < (↑(List.length x0) : Int)) = Bool.true, (!v6) = Bool.false, Bool.false = Bool.false, 0 ≤ v7, v7 < (↑(List.length x0) : Int), (!ByteArray.toList (Prod.fst (List.getD x0 (Int.toNat v7) (ByteArray.empty, ByteArray.empty, ByteArray.empty, ()))) == ByteArray.toList (Prod.fst x1)) = Bool.false, 0 ≤ v7, v7 < (↑(List.length x0) : Int), (!ByteArray.toList (Prod.fst (Prod.snd (List.getD x0 (Int.toNat v7) (ByteArray.empty, ByteArray.empty, ByteArray.empty, ())))) == ByteArray.toList (Prod.fst (Prod.snd x1))) = Bool.false, InR IntKind.i64 (v7 + 1)]) := by kernel_rfl
theorem p106_10 (v6 : Bool) (v7 : Int) (h1 : List (ByteArray × ByteArray × ByteArray × Unit)) (x0 : List (ByteArray × ByteArray × ByteArray × Unit)) (x1 : ByteArray × ByteArray × ByteArray × Unit) : runF tab ext106 false 60 [] 2000 [] tys106 Try.f106.results [false, true] (cutAt b106 4) (E106_4 v6 v7 h1 x0 x1) (L106_4 v6 v7 h1 x0 x1) = some ([Dyn.mk (Ty.sl (Ty.cons Ty.str (Ty.cons Ty.str (Ty.cons Ty.str Ty.unit)))) (h1 ++ [x1])], [], [Decidable.decide (v7 < (↑(List.length x0) : Int)) = Bool.false, (!v6) = Bool.true, (List.length h1 + 1) * 48 ≤ 140737488355328]) := by kernel_rfl
theorem p106_11 (v6 : Bool) (v7 : Int) (h1 : List (ByteArray × ByteArray × ByteArray × Unit)) (x0 : List (ByteArray × ByteArray × ByteArray × Unit)) (x1 : ByteArray × ByteArray × ByteArray × Unit) : runF tab ext106 false 60 [] 2000 [] tys106 Try.f106.results [false, false] (cutAt b106 4) (E106_4 v6 v7 h1 x0 x1) (L106_4 v6 v7 h1 x0 x1) = some ([Dyn.mk (Ty.sl (Ty.cons Ty.str (Ty.cons Ty.str (Ty.cons Ty.str Ty.unit)))) h1], [], [Decidable.decide (v7 < (↑(List.length x0) : Int)) = Bool.false, (!v6) = Bool.false]) := by kernel_rfl
theorem snd106 : ∀ n, (∀ (x0 : List (ByteArray × ByteArray × ByteArray × Unit)) (x1 : ByteArray × ByteArray × ByteArray × Unit) ds, R106 n x0 x1 ds → ∀ w0 O q, AtV Try.prog 106 (PostR ds [] [] q w0 O) 60 w0 O q [] [.code b106] (entE 0 0 sig106 (x0, x1, ())) (entL sig106 (x0, x1, ()))) ∧ (∀ (v6 : Bool) (v7 : Int) (h1 : List (ByteArray × ByteArray × ByteArray × Unit)) (x0 : List (ByteArray × ByteArray × ByteArray × Unit)) (x1 : ByteArray × ByteArray × ByteArray × Unit) ds, R106_4 n v6 v7 h1 x0 x1 ds → ∀ w0 O q, AtV Try.prog 106 (PostR ds [] [] q w0 O) 60 w0 O q [] (cutAt b106 4) (E106_4 v6 v7 h1 x0 x1) (L106_4 v6 v7 h1 x0 x1)) := by
  intro n
  induction n with
  | zero => exact ⟨fun _ _ _ h => by simp only [R106] at h, fun _ _ _ _ _ _ h => by simp only [R106_4] at h⟩
  | succ n ih =>
  obtain ⟨ih, ih4⟩ := ih
  refine ⟨?_, ?_⟩
  · intro x0 x1 ds h w0 O q
    rw [R106] at h
    exact AtV.runN tabOk ext106Ok mixed (p106_0 x0 x1) trivial (ih4 _ _ _ _ _ _ h w0 O q)

  · intro v6 v7 h1 x0 x1 ds h w0 O q
    rw [R106_4] at h
    by_cases b0 : (Decidable.decide (v7 < (↑(List.length x0) : Int))) = true
    · rw [if_pos b0] at h
      by_cases b1 : (!v6) = true
      · rw [if_pos b1] at h
        obtain ⟨s0, s1, h⟩ := h
        by_cases b2 : (!g115_0 (List.getD x0 (Int.toNat v7) (ByteArray.empty, ByteArray.empty, ByteArray.empty, ())) x1) = true
        · rw [if_pos b2] at h
          obtain ⟨s2, h⟩ := h
          obtain ⟨s3, s4, h⟩ := h
          by_cases b3 : (!ByteArray.toList (Prod.fst (List.getD x0 (Int.toNat v7) (ByteArray.empty, ByteArray.empty, ByteArray.empty, ()))) == ByteArray.toList (Prod.fst x1)) = true
          · rw [if_pos b3] at h
            obtain ⟨s5, s6, h⟩ := h
            obtain ⟨s7, h⟩ := h
            obtain ⟨s8, h⟩ := h
            exact AtV.runN tabOk ext106Ok mixed (p106_1 v6 v7 h1 x0 x1) ⟨b0, b1, s0, s1, trivial, b2, s2, s3, s4, b3, rfl, s5, s6, s7, s8, trivial⟩ (ih4 _ _ _ _ _ _ h w0 O q)
          · rw [if_neg b3] at h
            replace b3 := Bool.eq_false_iff.2 b3
            obtain ⟨s5, s6, h⟩ := h
            by_cases b4 : (!ByteArray.toList (Prod.fst (Prod.snd (List.getD x0 (Int.toNat v7) (ByteArray.empty, ByteArray.empty, ByteArray.empty, ())))) == ByteArray.toList (Prod.fst (Prod.snd x1))) = true
            · rw [if_pos b4] at h
              obtain ⟨s7, s8, h⟩ := h
              obtain ⟨s9, h⟩ := h
              obtain ⟨s10, h⟩ := h
              exact AtV.runN tabOk ext106Ok mixed (p106_2 v6 v7 h1 x0 x1) ⟨b0, b1, s0, s1, trivial, b2, s2, s3, s4, b3, s5, s6, b4, s7, s8, s9, s10, trivial⟩ (ih4 _ _ _ _ _ _ h w0 O q)
            · rw [if_neg b4] at h
              replace b4 := Bool.eq_false_iff.2 b4
              obtain ⟨s7, h⟩ := h
              exact AtV.runN tabOk ext106Ok mixed (p106_3 v6 v7 h1 x0 x1) ⟨b0, b1, s0, s1, trivial, b2, s2, s3, s4, b3, s5, s6, b4, s7, trivial⟩ (ih4 _ _ _ _ _ _ h w0 O q)
        · rw [if_neg b2] at h
          replace b2 := Bool.eq_false_iff.2 b2
          obtain ⟨s2, s3, h⟩ := h
          by_cases b3 : (!ByteArray.toList (Prod.fst (List.getD x0 (Int.toNat v7) (ByteArray.empty, ByteArray.empty, ByteArray.empty, ()))) == ByteArray.toList (Prod.fst x1)) = true
          · rw [if_pos b3] at h
            obtain ⟨s4, s5, h⟩ := h
            obtain ⟨s6, h⟩ := h
            obtain ⟨s7, h⟩ := h
            exact AtV.runN tabOk ext106Ok mixed (p106_4 v6 v7 h1 x0 x1) ⟨b0, b1, s0, s1, trivial, b2, s2, s3, b3, rfl, s4, s5, s6, s7, trivial⟩ (ih4 _ _ _ _ _ _ h w0 O q)
          · rw [if_neg b3] at h
            replace b3 := Bool.eq_false_iff.2 b3
            obtain ⟨s4, s5, h⟩ := h
            by_cases b4 : (!ByteArray.toList (Prod.fst (Prod.snd (List.getD x0 (Int.toNat v7) (ByteArray.empty, ByteArray.empty, ByteArray.empty, ())))) == ByteArray.toList (Prod.fst (Prod.snd x1))) = true
            · rw [if_pos b4] at h
              obtain ⟨s6, s7, h⟩ := h
              obtain ⟨s8, h⟩ := h
              obtain ⟨s9, h⟩ := h
              exact AtV.runN tabOk ext106Ok mixed (p106_5 v6 v7 h1 x0 x1) ⟨b0, b1, s0, s1, trivial, b2, s2, s3, b3, s4, s5, b4, s6, s7, s8, s9, trivial⟩ (ih4 _ _ _ _ _ _ h w0 O q)
            · rw [if_neg b4] at h
              replace b4 := Bool.eq_false_iff.2 b4
              obtain ⟨s6, h⟩ := h
              exact AtV.runN tabOk ext106Ok mixed (p106_6 v6 v7 h1 x0 x1) ⟨b0, b1, s0, s1, trivial, b2, s2, s3, b3, s4, s5, b4, s6, trivial⟩ (ih4 _ _ _ _ _ _ h w0 O q)
      · rw [if_neg b1] at h
        replace b1 := Bool.eq_false_iff.2 b1
        obtain ⟨s0, s1, h⟩ := h
        by_cases b2 : (!ByteArray.toList (Prod.fst (List.getD x0 (Int.toNat v7) (ByteArray.empty, ByteArray.empty, ByteArray.empty, ()))) == ByteArray.toList (Prod.fst x1)) = true
        · rw [if_pos b2] at h
          obtain ⟨s2, s3, h⟩ := h
          obtain ⟨s4, h⟩ := h
          obtain ⟨s5, h⟩ := h
          exact AtV.runN tabOk ext106Ok mixed (p106_7 v6 v7 h1 x0 x1) ⟨b0, b1, rfl, s0, s1, b2, rfl, s2, s3, s4, s5, trivial⟩ (ih4 _ _ _ _ _ _ h w0 O q)
        · rw [if_neg b2] at h
          replace b2 := Bool.eq_false_iff.2 b2
          obtain ⟨s2, s3, h⟩ := h
          by_cases b3 : (!ByteArray.toList (Prod.fst (Prod.snd (List.getD x0 (Int.toNat v7) (ByteArray.empty, ByteArray.empty, ByteArray.empty, ())))) == ByteArray.toList (Prod.fst (Prod.snd x1))) = true
          · rw [if_pos b3] at h
            obtain ⟨s4, s5, h⟩ := h
            obtain ⟨s6, h⟩ := h
            obtain ⟨s7, h⟩ := h
            exact AtV.runN tabOk ext106Ok mixed (p106_8 v6 v7 h1 x0 x1) ⟨b0, b1, rfl, s0, s1, b2, s2, s3, b3, s4, s5, s6, s7, trivial⟩ (ih4 _ _ _ _ _ _ h w0 O q)
          · rw [if_neg b3] at h
            replace b3 := Bool.eq_false_iff.2 b3
            obtain ⟨s4, h⟩ := h
            exact AtV.runN tabOk ext106Ok mixed (p106_9 v6 v7 h1 x0 x1) ⟨b0, b1, rfl, s0, s1, b2, s2, s3, b3, s4, trivial⟩ (ih4 _ _ _ _ _ _ h w0 O q)
    · rw [if_neg b0] at h
      replace b0 := Bool.eq_false_iff.2 b0
      by_cases b1 : (!v6) = true
      · rw [if_pos b1] at h
        obtain ⟨s0, h⟩ := h
        subst h
        exact AtV.fin Try.func106 tabOk ext106Ok mixed (p106_10 v6 v7 h1 x0 x1) ⟨b0, b1, s0, trivial⟩
      · rw [if_neg b1] at h
        replace b1 := Bool.eq_false_iff.2 b1
        subst h
        exact AtV.fin Try.func106 tabOk ext106Ok mixed (p106_11 v6 v7 h1 x0 x1) ⟨b0, b1, trivial⟩



def st106 (t : (ByteArray × ByteArray × ByteArray × Unit)) (s : List (ByteArray × ByteArray × ByteArray × Unit) × Bool) (x : (ByteArray × ByteArray × ByteArray × Unit)) : List (ByteArray × ByteArray × ByteArray × Unit) × Bool :=
  (if (ByteArray.toList x.1 == ByteArray.toList t.1 && ByteArray.toList x.2.1 == ByteArray.toList t.2.1) = true then (if (!s.2 && !g115_0 x t) = true then s.1 ++ [t] else s.1) else (if (!s.2 && !g115_0 x t) = true then s.1 ++ [t] else s.1) ++ [x], s.2 || !g115_0 x t)

def fin106 (t : (ByteArray × ByteArray × ByteArray × Unit)) (s : List (ByteArray × ByteArray × ByteArray × Unit) × Bool) : List (ByteArray × ByteArray × ByteArray × Unit) := if s.2 = true then s.1 else s.1 ++ [t]
def g106_0 (x0 : List (ByteArray × ByteArray × ByteArray × Unit)) (x1 : (ByteArray × ByteArray × ByteArray × Unit)) : List (ByteArray × ByteArray × ByteArray × Unit) := fin106 x1 (x0.foldl (st106 x1) ([], false))
def P106 (x0 : List (ByteArray × ByteArray × ByteArray × Unit)) (x1 : (ByteArray × ByteArray × ByteArray × Unit)) : Prop := x0.length ≤ 1048576

theorem stl106 (t : (ByteArray × ByteArray × ByteArray × Unit)) (s : List (ByteArray × ByteArray × ByteArray × Unit) × Bool) (x : (ByteArray × ByteArray × ByteArray × Unit)) (i : Nat) (h : s.1.length ≤ 2 * i) : (st106 t s x).1.length ≤ 2 * (i + 1) := by
  unfold st106
  cases (ByteArray.toList x.1 == ByteArray.toList t.1 && ByteArray.toList x.2.1 == ByteArray.toList t.2.1) <;> cases (!s.2 && !g115_0 x t) <;> simp <;> omega

set_option maxHeartbeats 1000000 in
theorem top106 (x0 : List (ByteArray × ByteArray × ByteArray × Unit)) (x1 : (ByteArray × ByteArray × ByteArray × Unit)) (hp : P106 x0 x1) : R106 (x0.length + 1 + 1) x0 x1 [⟨.sl (.cons .str (.cons .str (.cons .str .unit))), g106_0 x0 x1⟩] := by
  have hl : x0.length ≤ 1048576 := hp
  have hm : x0.length ≤ maxLen := by unfold maxLen; omega
  rw [R106]
  have key : ∀ d : List Dyn, d = [(⟨.sl (.cons .str (.cons .str (.cons .str .unit))), fin106 x1 (x0.foldl (st106 x1) ([], false))⟩ : Dyn)] → R106_4 (x0.length + 1) false 0 [] x0 x1 d → R106_4 (x0.length + 1) false 0 [] x0 x1 [⟨.sl (.cons .str (.cons .str (.cons .str .unit))), g106_0 x0 x1⟩] := fun d hd h => by rw [hd] at h; exact h
  refine key _ rfl ?_
  clear key
  refine loop_fold (β := List (ByteArray × ByteArray × ByteArray × Unit) × Bool) (δ := List Dyn) (b := ([], false)) x0 (ByteArray.empty, ByteArray.empty, ByteArray.empty, ()) (st106 x1) (fun s => [(⟨.sl (.cons .str (.cons .str (.cons .str .unit))), fin106 x1 s⟩ : Dyn)]) (fun n s => s.1.length ≤ 2 * n) (fun n i s ds => R106_4 n s.2 i s.1 x0 x1 ds) (by simp) (fun n s hs => ?_) (fun n i s hi hs => ⟨stl106 x1 s _ i hs, fun ds hr => ?_⟩)
  · show R106_4 (n + 1) s.2 (x0.length : Int) s.1 x0 x1 _
    rw [R106_4, if_neg (by simp)]
    obtain ⟨h, d⟩ := s
    simp only at hs ⊢
    unfold fin106
    cases d with
    | true => simp
    | false =>
      exact ⟨by omega, rfl⟩
  · have hup := inR_up hm hi
    obtain ⟨h, d⟩ := s
    simp only at hs
    have b0 : (0 : Int) ≤ (i : Int) := by omega
    have b1 : (i : Int) < (x0.length : Int) := by omega
    have c1 : ((h.length + 1 : Nat) : Nat) * 48 ≤ 140737488355328 := by omega
    have c2 : ((h ++ [x1]).length + 1) * 48 ≤ 140737488355328 := by
      have e : (h ++ [x1]).length = h.length + 1 := by rw [List.length_append, List.length_singleton]
      omega
    show R106_4 (n + 1) d (i : Int) h x0 x1 ds
    rw [R106_4, if_pos (by simp only [decide_eq_true_eq]; omega)]
    unfold st106 at hr
    simp only [Int.toNat_natCast] at hr ⊢
    generalize x0.getD i (ByteArray.empty, ByteArray.empty, ByteArray.empty, ()) = y at *
    cases d <;> cases hb : g115_0 y x1 <;> cases hk : (ByteArray.toList y.1 == ByteArray.toList x1.1) <;> cases hn : (ByteArray.toList y.2.1 == ByteArray.toList x1.2.1) <;>
      simp only [hb, hk, hn, Bool.not_true, Bool.not_false, Bool.and_true, Bool.and_false, Bool.true_and, Bool.false_and, Bool.or_true, Bool.or_false, Bool.true_or, Bool.false_or, if_true, if_false, Bool.false_eq_true, b0, b1, c1, c2, hup, true_and] at hr ⊢ <;> exact hr

def S106 : Am.Spec := { sig := sig106, pre := fun ⟨x0, x1, _⟩ => P106 x0 x1, res := fun ⟨x0, x1, _⟩ => [⟨.sl (.cons .str (.cons .str (.cons .str .unit))), g106_0 x0 x1⟩] }
theorem con106 : Contract Try.prog 106 S106 := contract_of Try.func106 hb106 (Nat.le_of_ble_eq_true (by kernel_rfl)) (fun ⟨x0, x1, _⟩ h hwf w0 O q =>
  (snd106 _).1 x0 x1 _ (top106 x0 x1 h) w0 O q)

theorem len106 (x0 : List (ByteArray × ByteArray × ByteArray × Unit)) (x1 : (ByteArray × ByteArray × ByteArray × Unit)) : (g106_0 x0 x1).length ≤ x0.length + 1 := by
  have key : ∀ (l : List (ByteArray × ByteArray × ByteArray × Unit)) (s : List (ByteArray × ByteArray × ByteArray × Unit) × Bool) (n : Nat), s.1.length ≤ n + (if s.2 = true then 1 else 0) → (l.foldl (st106 x1) s).1.length ≤ n + l.length + (if (l.foldl (st106 x1) s).2 = true then 1 else 0) := by
    intro l
    induction l with
    | nil => intro s n h; exact h
    | cons y r ih =>
      intro s n h
      rw [List.foldl_cons]
      have := ih (st106 x1 s y) (n + 1) (by
        obtain ⟨a, d⟩ := s
        simp only at h
        unfold st106
        cases (ByteArray.toList y.1 == ByteArray.toList x1.1 && ByteArray.toList y.2.1 == ByteArray.toList x1.2.1) <;> cases g115_0 y x1 <;> cases d <;> simp at h ⊢ <;> omega)
      rw [List.length_cons]
      omega
  have := key x0 ([], false) 0 (by simp)
  unfold g106_0 fin106
  generalize x0.foldl (st106 x1) ([], false) = s at *
  obtain ⟨a, d⟩ := s
  cases d with
  | true => simp at this ⊢; omega
  | false => simp at this ⊢; omega

end Go.Proofs.Ytjkeinpcphkfbaa

/- Function 60 (spec.PutBlock): its runs between cut points. Written by a program of this repo (gen). -/
set_option linter.unusedVariables false
set_option linter.unusedSimpArgs false
set_option maxRecDepth 100000
namespace Go.Proofs.Ytjkeinpcphkfbaa
open Go Go.Am Go.Proofs
def ext60 : Ext := [(83, S83), (105, S105), (106, S106)]
theorem call60_83 : Callable Try.prog 83 := ⟨Try.f83, Try.func83, by kernel_rfl, by kernel_rfl⟩
theorem call60_105 : Callable Try.prog 105 := ⟨Try.f105, Try.func105, by kernel_rfl, by kernel_rfl⟩
theorem call60_106 : Callable Try.prog 106 := ⟨Try.f106, Try.func106, by kernel_rfl, by kernel_rfl⟩
theorem ext60Ok : ExtOk Try.prog ext60 := ⟨⟨call60_83, con83⟩, ⟨call60_105, con105⟩, ⟨call60_106, con106⟩, trivial⟩
/-! Function 60. -/
noncomputable def b60 : Code := bodyOf Try.f60
theorem hb60 : Try.f60.body = some b60 := by kernel_rfl
def sig60 : List AT := [AT.v (Ty.sl (Ty.cons Ty.str (Ty.cons Ty.str (Ty.cons Ty.str Ty.unit)))), AT.v (Ty.cons Ty.str (Ty.cons Ty.str (Ty.cons Ty.str Ty.unit)))]
def tys60 : List Ty := [Ty.sl (Ty.cons Ty.str (Ty.cons Ty.str (Ty.cons Ty.str Ty.unit))), Ty.int IntKind.i64]
def P60 (x0 : List (ByteArray × ByteArray × ByteArray × Unit)) (x1 : ByteArray × ByteArray × ByteArray × Unit) : Prop := (if (!g83_0 x0) = true then True else (if (!g105_0 x1) = true then True else ((P106 x0 x1) ∧ True)))
def g60_0 (x0 : List (ByteArray × ByteArray × ByteArray × Unit)) (x1 : ByteArray × ByteArray × ByteArray × Unit) : List (ByteArray × ByteArray × ByteArray × Unit) := (if (!g83_0 x0) = true then [] else (if (!g105_0 x1) = true then [] else (if (Decidable.decide ((↑(List.length (g106_0 x0 x1)) : Int) > 32)) = true then [] else g106_0 x0 x1)))
def g60_1 (x0 : List (ByteArray × ByteArray × ByteArray × Unit)) (x1 : ByteArray × ByteArray × ByteArray × Unit) : Int := (if (!g83_0 x0) = true then 1 else (if (!g105_0 x1) = true then 1 else (if (Decidable.decide ((↑(List.length (g106_0 x0 x1)) : Int) > 32)) = true then 5 else 0)))
theorem p60_0 (x0 : List (ByteArray × ByteArray × ByteArray × Unit)) (x1 : ByteArray × ByteArray × ByteArray × Unit) : runF tab ext60 false 21 [] 2000 [] tys60 Try.f60.results [true, true] [.code b60] (entE 0 0 sig60 (x0, x1, ())) (entL sig60 (x0, x1, ())) = some ([Dyn.mk (Ty.sl (Ty.cons Ty.str (Ty.cons Ty.str (Ty.cons Ty.str Ty.unit)))) [], Dyn.mk (Ty.int IntKind.i64) 1], [], [True, (!g83_0 x0) = Bool.true, Bool.true = Bool.true]) := by kernel_rfl
theorem p60_1 (x0 : List (ByteArray × ByteArray × ByteArray × Unit)) (x1 : ByteArray × ByteArray × ByteArray × Unit) : runF tab ext60 false 21 [] 2000 [] tys60 Try.f60.results [false, true] [.code b60] (entE 0 0 sig60 (x0, x1, ())) (entL sig60 (x0, x1, ())) = some ([Dyn.mk (Ty.sl (Ty.cons Ty.str (Ty.cons Ty.str (Ty.cons Ty.str Ty.unit)))) [], Dyn.mk (Ty.int IntKind.i64) 1], [], [True, (!g83_0 x0) = Bool.false, True, (!g105_0 x1) = Bool.true]) := by kernel_rfl
theorem p60_2 (x0 : List (ByteArray × ByteArray × ByteArray × Unit)) (x1 : ByteArray × ByteArray × ByteArray × Unit) : runF tab ext60 false 21 [] 2000 [] tys60 Try.f60.results [false, false, true] [.code b60] (entE 0 0 sig60 (x0, x1, ())) (entL sig60 (x0, x1, ())) = some ([Dyn.mk (Ty.sl (Ty.cons Ty.str (Ty.cons Ty.str (Ty.cons Ty.str Ty.unit)))) [], Dyn.mk (Ty.int IntKind.i64) 5], [], [True, (!g83_0 x0) = Bool.false, True, (!g105_0 x1) = Bool.false, P106 x0 x1, Decidable.decide ((↑(List.length (g106_0 x0 x1)) : Int) > 32) = Bool.true]) := by kernel_rfl
theorem p60_3 (x0 : List (ByteArray × ByteArray × ByteArray × Unit)) (x1 : ByteArray × ByteArray × ByteArray × Unit) : runF tab ext60 false 21 [] 2000 [] tys60 Try.f60.results [false, false, false] [.code b60] (entE 0 0 sig60 (x0, x1, ())) (entL sig60 (x0, x1, ())) = some ([Dyn.mk (Ty.sl (Ty.cons Ty.str (Ty.cons Ty.str (Ty.cons Ty.str Ty.unit)))) (g106_0 x0 x1), Dyn.mk (Ty.int IntKind.i64) 0], [], [True, (!g83_0 x0) = Bool.false, True, (!g105_0 x1) = Bool.false, P106 x0 x1, Decidable.decide ((↑(List.length (g106_0 x0 x1)) : Int) > 32) = Bool.false]) := by kernel_rfl
theorem at60 (x0 : List (ByteArray × ByteArray × ByteArray × Unit)) (x1 : ByteArray × ByteArray × ByteArray × Unit) (h : P60 x0 x1) (w0 : World) (O : List Nat) (q : Nat → Value) : AtV Try.prog 60 (PostR [⟨Ty.sl (Ty.cons Ty.str (Ty.cons Ty.str (Ty.cons Ty.str Ty.unit))), g60_0 x0 x1⟩, ⟨Ty.int IntKind.i64, g60_1 x0 x1⟩] [] [] q w0 O) 21 w0 O q [] [.code b60] (entE 0 0 sig60 (x0, x1, ())) (entL sig60 (x0, x1, ())) := by
  unfold P60 at h
  unfold g60_0 g60_1
  by_cases b0 : (!g83_0 x0) = true
  · try simp only [if_pos b0] at h ⊢
    exact AtV.fin Try.func60 tabOk ext60Ok mixed (p60_0 x0 x1) ⟨trivial, b0, rfl, trivial⟩
  · try simp only [if_neg b0] at h ⊢
    replace b0 := Bool.eq_false_iff.2 b0
    by_cases b1 : (!g105_0 x1) = true
    · try simp only [if_pos b1] at h ⊢
      exact AtV.fin Try.func60 tabOk ext60Ok mixed (p60_1 x0 x1) ⟨trivial, b0, trivial, b1, trivial⟩
    · try simp only [if_neg b1] at h ⊢
      replace b1 := Bool.eq_false_iff.2 b1
      obtain ⟨s0, h⟩ := h
      by_cases b2 : (Decidable.decide ((↑(List.length (g106_0 x0 x1)) : Int) > 32)) = true
      · try simp only [if_pos b2] at h ⊢
        exact AtV.fin Try.func60 tabOk ext60Ok mixed (p60_2 x0 x1) ⟨trivial, b0, trivial, b1, s0, b2, trivial⟩
      · try simp only [if_neg b2] at h ⊢
        replace b2 := Bool.eq_false_iff.2 b2
        exact AtV.fin Try.func60 tabOk ext60Ok mixed (p60_3 x0 x1) ⟨trivial, b0, trivial, b1, s0, b2, trivial⟩

def S60 : Am.Spec := { sig := sig60, pre := fun ⟨x0, x1, _⟩ => P60 x0 x1, res := fun ⟨x0, x1, _⟩ => [⟨Ty.sl (Ty.cons Ty.str (Ty.cons Ty.str (Ty.cons Ty.str Ty.unit))), g60_0 x0 x1⟩, ⟨Ty.int IntKind.i64, g60_1 x0 x1⟩] }
theorem con60 : Contract Try.prog 60 S60 := contract_of Try.func60 hb60 (Nat.le_of_ble_eq_true (by kernel_rfl)) (fun ⟨x0, x1, _⟩ h _ w0 O q => at60 x0 x1 h w0 O q)


end Go.Proofs.Ytjkeinpcphkfbaa

/- Function 116 (impl.IsName): its runs between cut points. Written by a program of this repo (gen). -/
set_option linter.unusedVariables false
set_option linter.unusedSimpArgs false
set_option maxRecDepth 100000
namespace Go.Proofs.Ytjkeinpcphkfbaa
open Go Go.Am Go.Proofs
def ext116 : Ext := []
theorem ext116Ok : ExtOk Try.prog ext116 := trivial
/-! Function 116. -/
noncomputable def b116 : Code := bodyOf Try.f116
theorem hb116 : Try.f116.body = some b116 := by kernel_rfl
def sig116 : List AT := [AT.v (Ty.str)]
def tys116 : List Ty := [Ty.bool]
def E116_4 (v18 : Int) (x0 : ByteArray) : Env := [(16, PV.a (Atom.osl 0 Option.none)), (17, PV.a (Atom.val (Value.int IntKind.i64 (↑(List.length (bytesOf x0)) : Int)))), (18, PV.a (Atom.val (Value.int IntKind.i64 v18)))]
def L116_4 (v18 : Int) (x0 : ByteArray) : Heap := [Option.some (Arr.mk (Ty.int IntKind.u8) (bytesOf x0) Bool.false)]
mutual
def R116 : Nat → ByteArray → List Dyn → Prop
  | 0, _, _ => False
  | n + 1, x0, ds => (if (Decidable.decide ((↑(ByteArray.size x0) : Int) < 1)) = true then (ds = [Dyn.mk Ty.bool Bool.false]) else (if (Decidable.decide ((↑(ByteArray.size x0) : Int) > 10)) = true then (ds = [Dyn.mk Ty.bool Bool.false]) else (R116_4 n (0) (x0) ds)))
def R116_4 : Nat → Int → ByteArray → List Dyn → Prop
  | 0, _, _, _ => False
  | n + 1, v18, x0, ds => (if (Decidable.decide (v18 < (↑(List.length (bytesOf x0)) : Int))) = true then ((0 ≤ v18) ∧ (v18 < (↑(List.length (bytesOf x0)) : Int)) ∧ (if (Decidable.decide (List.getD (bytesOf x0) (Int.toNat v18) 0 ≥ 97)) = true then (if (Decidable.decide (List.getD (bytesOf x0) (Int.toNat v18) 0 ≥ 48)) = true then (if (!Decidable.decide (List.getD (bytesOf x0) (Int.toNat v18) 0 ≤ 122)) = true then (if (v18 == 0) = true then (ds = [Dyn.mk Ty.bool Bool.false]) else (if (!Decidable.decide (List.getD (bytesOf x0) (Int.toNat v18) 0 ≤ 57)) = true then (ds = [Dyn.mk Ty.bool Bool.false]) else ((InR IntKind.i64 (v18 + 1)) ∧ (R116_4 n (v18 + 1) (x0) ds)))) else ((InR IntKind.i64 (v18 + 1)) ∧ (R116_4 n (v18 + 1) (x0) ds))) else (if (!Decidable.decide (List.getD (bytesOf x0) (Int.toNat v18) 0 ≤ 122)) = true then (if (v18 == 0) = true then (ds = [Dyn.mk Ty.bool Bool.false]) else (ds = [Dyn.mk Ty.bool Bool.false])) else ((InR IntKind.i64 (v18 + 1)) ∧ (R116_4 n (v18 + 1) (x0) ds)))) else (if (Decidable.decide (List.getD (bytesOf x0) (Int.toNat v18) 0 ≥ 48)) = true then (if (v18 == 0) = true then (ds = [Dyn.mk Ty.bool Bool.false]) else (if (!Decidable.decide (List.getD (bytesOf x0) (Int.toNat v18) 0 ≤ 57)) = true then (ds = [Dyn.mk Ty.bool Bool.false]) else ((InR IntKind.i64 (v18 + 1)) ∧ (R116_4 n (v18 + 1) (x0) ds)))) else (if (v18 == 0) = true then (ds = [Dyn.mk Ty.bool Bool.false]) else (ds = [Dyn.mk Ty.bool Bool.false]))))) else (ds = [Dyn.mk Ty.bool Bool.true]))
end
theorem p116_0 (x0 : ByteArray) : runF tab ext116 false 46 [] 2000 [] tys116 Try.f116.results [true, true] [.code b116] (entE 0 0 sig116 (x0, ())) (entL sig116 (x0, ())) = some ([Dyn.mk Ty.bool Bool.false], [], [Decidable.decide ((↑(ByteArray.size x0) : Int) < 1) = Bool.true, Bool.true = Bool.true]) := by kernel_rfl
theorem p116_1 (x0 : ByteArray) : runF tab ext116 false 46 [] 2000 [] tys116 Try.f116.results [false, true] [.code b116] (entE 0 0 sig116 (x0, ())) (entL sig116 (x0, ())) = some ([Dyn.mk Ty.bool Bool.false], [], [Decidable.decide ((↑(ByteArray.size x0) : Int) < 1) = Bool.false, Decidable.decide ((↑(ByteArray.size x0) : Int) > 10) = Bool.true]) := by kernel_rfl
theorem p116_2 (x0 : ByteArray) : Am.runN tab ext116 false 46 [] 2000 [] [] [16, 17, 18] [0] [false, false] [.code b116] (entE 0 0 sig116 (x0, ())) (entL sig116 (x0, ())) = some (cutAt b116 4, E116_4 (0) (x0), L116_4 (0) (x0), [Decidable.decide ((↑(ByteArray.size x0) : Int) < 1) = Bool.false, Decidable.decide ((↑(ByteArray.size x0) : Int) > 10) = Bool.false]) := by kernel_rfl
theorem p116_3 (v18 : Int) (x0 : ByteArray) : runF tab ext116 false 46 [] 2000 [] tys116 Try.f116.results [true, true, true, true, true, true] (cutAt b116 4) (E116_4 v18 x0) (L116_4 v18 x0) = some ([Dyn.mk Ty.bool Bool.false], [], [Decidable.decide (v18 < (↑(List.length (bytesOf x0)) : Int)) = Bool.true, 0 ≤ v18, v18 < (↑(List.length (bytesOf x0)) : Int), Decidable.decide (List.getD (bytesOf x0) (Int.toNat v18) 0 ≥ 97) = Bool.true, Decidable.decide (List.getD (bytesOf x0) (Int.toNat v18) 0 ≥ 48) = Bool.true, (!Decidable.decide (List.getD (bytesOf x0) (Int.toNat v18) 0 ≤ 122)) = Bool.true, (v18 == 0) = Bool.true, Bool.true = Bool.true]) := by kernel_rfl
theorem p116_4 (v18 : Int) (x0 : ByteArray) : runF tab ext116 false 46 [] 2000 [] tys116 Try.f116.results [true, true, true, true, false, true] (cutAt b116 4) (E116_4 v18 x0) (L116_4 v18 x0) = some ([Dyn.mk Ty.bool Bool.false], [], [Decidable.decide (v18 < (↑(List.length (bytesOf x0)) : Int)) = Bool.true, 0 ≤ v18, v18 < (↑(List.length (bytesOf x0)) : Int), Decidable.decide (List.getD (bytesOf x0) (Int.toNat v18) 0 ≥ 97) = Bool.true, Decidable.decide (List.getD (bytesOf x0) (Int.toNat v18) 0 ≥ 48) = Bool.true, (!Decidable.decide (List.getD (bytesOf x0) (Int.toNat v18) 0 ≤ 122)) = Bool.true, (v18 == 0) = Bool.false, (!Decidable.decide (List.getD (bytesOf x0) (Int.toNat v18) 0 ≤ 57)) = Bool.true]) := by kernel_rfl
theorem p116_5 (v18 : Int) (x0 : ByteArray) : Am.runN tab ext116 false 46 [] 2000 [] [] [16, 17, 18] [0] [true, true, true, true, false, false] (cutAt b116 4) (E116_4 v18 x0) (L116_4 v18 x0) = some (cutAt b116 4, E116_4 (v18 + 1) (x0), L116_4 (v18 + 1) (x0), [Decidable.decide (v18 < (↑(List.length (bytesOf x0)) : Int)) = Bool.true, 0 ≤ v18, v18 < (↑(List.length (bytesOf x0)) : Int), Decidable.decide (List.getD (bytesOf x0) (Int.toNat v18) 0 ≥ 97) = Bool.true, Decidable.decide (List.getD (bytesOf x0) (Int.toNat v18) 0 ≥ 48) = Bool.true, (!Decidable.decide (List.getD (bytesOf x0) (Int.toNat v18) 0 ≤ 122)) = Bool.true, (v18 == 0) = Bool.false, (!Decidable.decide (List.getD (bytesOf x0) (Int.toNat v18) 0 ≤ 57)) = Bool.false, InR IntKind.i64 (v18 + 1)]) := by kernel_rfl
theorem p116_6 (v18 : Int) (x0 : ByteArray) : Am.runN tab ext116 false 46 [] 2000 [] [] [16, 17, 18] [0] [true, true, true, false, false] (cutAt b116 4) (E116_4 v18 x0) (L116_4 v18 x0) = some (cutAt b116 4, E116_4 (v18 + 1) (x0), L116_4 (v18 + 1) (x0), [Decidable.decide (v18 < (↑(List.length (bytesOf x0)) : Int)) = Bool.true, 0 ≤ v18, v18 < (↑(List.length (bytesOf x0)) : Int), Decidable.decide (List.getD (bytesOf x0) (Int.toNat v18) 0 ≥ 97) = Bool.true, Decidable.decide (List.getD (bytesOf x0) (Int.toNat v18) 0 ≥ 48) = Bool.true, (!Decidable.decide (List.getD (bytesOf x0) (Int.toNat v18) 0 ≤ 122)) = Bool.false, Bool.false = Bool.false, InR IntKind.i64 (v18 + 1)]) := by kernel_rfl
theorem p116_7 (v18 : Int) (x0 : ByteArray) : runF tab ext116 false 46 [] 2000 [] tys116 Try.f116.results [true, true, false, true, true, true] (cutAt b116 4) (E116_4 v18 x0) (L116_4 v18 x0) = some ([Dyn.mk Ty.bool Bool.false], [], [Decidable.decide (v18 < (↑(List.length (bytesOf x0)) : Int)) = Bool.true, 0 ≤ v18, v18 < (↑(List.length (bytesOf x0)) : Int), Decidable.decide (List.getD (bytesOf x0) (Int.toNat v18) 0 ≥ 97) = Bool.true, Decidable.decide (List.getD (bytesOf x0) (Int.toNat v18) 0 ≥ 48) = Bool.false, (!Decidable.decide (List.getD (bytesOf x0) (Int.toNat v18) 0 ≤ 122)) = Bool.true, (v18 == 0) = Bool.true, Bool.true = Bool.true]) := by kernel_rfl
theorem p116_8 (v18 : Int) (x0 : ByteArray) : runF tab ext116 false 46 [] 2000 [] tys116 Try.f116.results [true, true, false, true, false, true] (cutAt b116 4) (E116_4 v18 x0) (L116_4 v18 x0) = some ([Dyn.mk Ty.bool Bool.false], [], [Decidable.decide (v18 < (↑(List.length (bytesOf x0)) : Int)) = Bool.true, 0 ≤ v18, v18 < (↑(List.length (bytesOf x0)) : Int), Decidable.decide (List.getD (bytesOf x0) (Int.toNat v18) 0 ≥ 97) = Bool.true, Decidable.decide (List.getD (bytesOf x0) (Int.toNat v18) 0 ≥ 48) = Bool.false, (!Decidable.decide (List.getD (bytesOf x0) (Int.toNat v18) 0 ≤ 122)) = Bool.true, (v18 == 0) = Bool.false, Bool.true = Bool.true]) := by kernel_rfl
theorem p116_9 (v18 : Int) (x0 : ByteArray) : Am.runN tab ext116 false 46 [] 2000 [] [] [16, 17, 18] [0] [true, true, false, false, false] (cutAt b116 4) (E116_4 v18 x0) (L116_4 v18 x0) = some (cutAt b116 4, E116_4 (v18 + 1) (x0), L116_4 (v18 + 1) (x0), [Decidable.decide (v18 < (↑(List.length (bytesOf x0)) : Int)) = Bool.true, 0 ≤ v18, v18 < (↑(List.length (bytesOf x0)) : Int), Decidable.decide (List.getD (bytesOf x0) (Int.toNat v18) 0 ≥ 97) = Bool.true, Decidable.decide (List.getD (bytesOf x0) (Int.toNat v18) 0 ≥ 48) = Bool.false, (!Decidable.decide (List.getD (bytesOf x0) (Int.toNat v18) 0 ≤ 122)) = Bool.false, Bool.false = Bool.false, InR IntKind.i64 (v18 + 1)]) := by kernel_rfl
theorem p116_10 (v18 : Int) (x0 : ByteArray) : runF tab ext116 false 46 [] 2000 [] tys116 Try.f116.results [true, false, true, true, true, true] (cutAt b116 4) (E116_4 v18 x0) (L116_4 v18 x0) = some ([Dyn.mk Ty.bool Bool.false], [], [Decidable.decide (v18 < (↑(List.length (bytesOf x0)) : Int)) = Bool.true, 0 ≤ v18, v18 < (↑(List.length (bytesOf x0)) : Int), Decidable.decide (List.getD (bytesOf x0) (Int.toNat v18) 0 ≥ 97) = Bool.false, Decidable.decide (List.getD (bytesOf x0) (Int.toNat v18) 0 ≥ 48) = Bool.true, Bool.true = Bool.true, (v18 == 0) = Bool.true, Bool.true = Bool.true]) := by kernel_rfl
theorem p116_11 (v18 : Int) (x0 : ByteArray) : runF tab ext116 false 46 [] 2000 [] tys116 Try.f116.results [true, false, true, true, false, true] (cutAt b116 4) (E116_4 v18 x0) (L116_4 v18 x0) = some ([Dyn.mk Ty.bool Bool.false], [], [Decidable.decide (v18 < (↑(List.length (bytesOf x0)) : Int)) = Bool.true, 0 ≤ v18, v18 < (↑(List.length (bytesOf x0)) : Int), Decidable.decide (List.getD (bytesOf x0) (Int.toNat v18) 0 ≥ 97) = Bool.false, Decidable.decide (List.getD (bytesOf x0) (Int.toNat v18) 0 ≥ 48) = Bool.true, Bool.true = Bool.true, (v18 == 0) = Bool.false, (!Decidable.decide (List.getD (bytesOf x0) (Int.toNat v18) 0 ≤ 57)) = Bool.true]) := by kernel_rfl
theorem p116_12 (v18 : Int) (x0 : ByteArray) : Am.runN tab ext116 false 46 [] 2000 [] [] [16, 17, 18] [0] [true, false, true, true, false, false] (cutAt b116 4) (E116_4 v18 x0) (L116_4 v18 x0) = some (cutAt b116 4, E116_4 (v18 + 1) (x0), L116_4 (v18 + 1) (x0), [Decidable.decide (v18 < (↑(List.length (bytesOf x0)) : Int)) = Bool.true, 0 ≤ v18, v18 < (↑(List.length (bytesOf x0)) : Int), Decidable.decide (List.getD (bytesOf x0) (Int.toNat v18) 0 ≥ 97) = Bool.false, Decidable.decide (List.getD (bytesOf x0) (Int.toNat v18) 0 ≥ 48) = Bool.true, Bool.true = Bool.true, (v18 == 0) = Bool.false, (!Decidable.decide (List.getD (bytesOf x0) (Int.toNat v18) 0 ≤ 57)) = Bool.false, InR IntKind.i64 (v18 + 1)]) := by kernel_rfl
theorem p116_13 (v18 : Int) (x0 : ByteArray) : runF tab ext116 false 46 [] 2000 [] tys116 Try.f116.results [true, false, false, true, true, true] (cutAt b116 4) (E116_4 v18 x0) (L116_4 v18 x0) = some ([Dyn.mk Ty.bool Bool.false], [], [Decidable.decide (v18 < (↑(List.length (bytesOf x0)) : Int)) = Bool.true, 0 ≤ v18, v18 < (↑(List.length (bytesOf x0)) : Int), Decidable.decide (List.getD (bytesOf x0) (Int.toNat v18) 0 ≥ 97) = Bool.false, Decidable.decide (List.getD (bytesOf x0) (Int.toNat v18) 0 ≥ 48) = Bool.false, Bool.true = Bool.true, (v18 == 0) = Bool.true, Bool.true = Bool.true]) := by kernel_rfl
theorem p116_14 (v18 : Int) (x0 : ByteArray) : runF tab ext116 false 46 [] 2000 [] tys116 Try.f116.results [true, false, false, true, false, true] (cutAt b116 4) (E116_4 v18 x0) (L116_4 v18 x0) = some ([Dyn.mk Ty.bool Bool.false], [], [Decidable.decide (v18 < (↑(List.length (bytesOf x0)) : Int)) = Bool.true, 0 ≤ v18, v18 < (↑(List.length (bytesOf x0)) : Int), Decidable.decide (List.getD (bytesOf x0) (Int.toNat v18) 0 ≥ 97) = Bool.false, Decidable.decide (List.getD (bytesOf x0) (Int.toNat v18) 0 ≥ 48) = Bool.false, Bool.true = Bool.true, (v18 == 0) = Bool.false, Bool.true = Bool.true]) := by kernel_rfl
theorem p116_15 (v18 : Int) (x0 : ByteArray) : runF tab ext116 false 46 [] 2000 [] tys116 Try.f116.results [false] (cutAt b116 4) (E116_4 v18 x0) (L116_4 v18 x0) = some ([Dyn.mk Ty.bool Bool.true], [], [Decidable.decide (v18 < (↑(List.length (bytesOf x0)) : Int)) = Bool.false]) := by kernel_rfl
theorem snd116 : ∀ n, (∀ (x0 : ByteArray) ds, R116 n x0 ds → ∀ w0 O q, AtV Try.prog 116 (PostR ds [] [] q w0 O) 46 w0 O q [] [.code b116] (entE 0 0 sig116 (x0, ())) (entL sig116 (x0, ()))) ∧ (∀ (v18 : Int) (x0 : ByteArray) ds, R116_4 n v18 x0 ds → ∀ w0 O q, AtV Try.prog 116 (PostR ds [] [] q w0 O) 46 w0 O q [] (cutAt b116 4) (E116_4 v18 x0) (L116_4 v18 x0)) := by
  intro n
  induction n with
  | zero => exact ⟨fun _ _ h => by simp only [R116] at h, fun _ _ _ h => by simp only [R116_4] at h⟩
  | succ n ih =>
  obtain ⟨ih, ih4⟩ := ih
  refine ⟨?_, ?_⟩
  · intro x0 ds h w0 O q
    rw [R116] at h
    by_cases b0 : (Decidable.decide ((↑(ByteArray.size x0) : Int) < 1)) = true
    · rw [if_pos b0] at h
      subst h
      exact AtV.fin Try.func116 tabOk ext116Ok mixed (p116_0 x0) ⟨b0, rfl, trivial⟩
    · rw [if_neg b0] at h
      replace b0 := Bool.eq_false_iff.2 b0
      by_cases b1 : (Decidable.decide ((↑(ByteArray.size x0) : Int) > 10)) = true
      · rw [if_pos b1] at h
        subst h
        exact AtV.fin Try.func116 tabOk ext116Ok mixed (p116_1 x0) ⟨b0, b1, trivial⟩
      · rw [if_neg b1] at h
        replace b1 := Bool.eq_false_iff.2 b1
        exact AtV.runN tabOk ext116Ok mixed (p116_2 x0) ⟨b0, b1, trivial⟩ (ih4 _ _ _ h w0 O q)

  · intro v18 x0 ds h w0 O q
    rw [R116_4] at h
    by_cases b0 : (Decidable.decide (v18 < (↑(List.length (bytesOf x0)) : Int))) = true
    · rw [if_pos b0] at h
      obtain ⟨s0, s1, h⟩ := h
      by_cases b1 : (Decidable.decide (List.getD (bytesOf x0) (Int.toNat v18) 0 ≥ 97)) = true
      · rw [if_pos b1] at h
        by_cases b2 : (Decidable.decide (List.getD (bytesOf x0) (Int.toNat v18) 0 ≥ 48)) = true
        · rw [if_pos b2] at h
          by_cases b3 : (!Decidable.decide (List.getD (bytesOf x0) (Int.toNat v18) 0 ≤ 122)) = true
          · rw [if_pos b3] at h
            by_cases b4 : (v18 == 0) = true
            · rw [if_pos b4] at h
              subst h
              exact AtV.fin Try.func116 tabOk ext116Ok mixed (p116_3 v18 x0) ⟨b0, s0, s1, b1, b2, b3, b4, rfl, trivial⟩
            · rw [if_neg b4] at h
              replace b4 := Bool.eq_false_iff.2 b4
              by_cases b5 : (!Decidable.decide (List.getD (bytesOf x0) (Int.toNat v18) 0 ≤ 57)) = true
              · rw [if_pos b5] at h
                subst h
                exact AtV.fin Try.func116 tabOk ext116Ok mixed (p116_4 v18 x0) ⟨b0, s0, s1, b1, b2, b3, b4, b5, trivial⟩
              · rw [if_neg b5] at h
                replace b5 := Bool.eq_false_iff.2 b5
                obtain ⟨s2, h⟩ := h
                exact AtV.runN tabOk ext116Ok mixed (p116_5 v18 x0) ⟨b0, s0, s1, b1, b2, b3, b4, b5, s2, trivial⟩ (ih4 _ _ _ h w0 O q)
          · rw [if_neg b3] at h
            replace b3 := Bool.eq_false_iff.2 b3
            obtain ⟨s2, h⟩ := h
            exact AtV.runN tabOk ext116Ok mixed (p116_6 v18 x0) ⟨b0, s0, s1, b1, b2, b3, rfl, s2, trivial⟩ (ih4 _ _ _ h w0 O q)
        · rw [if_neg b2] at h
          replace b2 := Bool.eq_false_iff.2 b2
          by_cases b3 : (!Decidable.decide (List.getD (bytesOf x0) (Int.toNat v18) 0 ≤ 122)) = true
          · rw [if_pos b3] at h
            by_cases b4 : (v18 == 0) = true
            · rw [if_pos b4] at h
              subst h
              exact AtV.fin Try.func116 tabOk ext116Ok mixed (p116_7 v18 x0) ⟨b0, s0, s1, b1, b2, b3, b4, rfl, trivial⟩
            · rw [if_neg b4] at h
              replace b4 := Bool.eq_false_iff.2 b4
              subst h
              exact AtV.fin Try.func116 tabOk ext116Ok mixed (p116_8 v18 x0) ⟨b0, s0, s1, b1, b2, b3, b4, rfl, trivial⟩
          · rw [if_neg b3] at h
            replace b3 := Bool.eq_false_iff.2 b3
            obtain ⟨s2, h⟩ := h
            exact AtV.runN tabOk ext116Ok mixed (p116_9 v18 x0) ⟨b0, s0, s1, b1, b2, b3, rfl, s2, trivial⟩ (ih4 _ _ _ h w0 O q)
      · rw [if_neg b1] at h
        replace b1 := Bool.eq_false_iff.2 b1
        by_cases b2 : (Decidable.decide (List.getD (bytesOf x0) (Int.toNat v18) 0 ≥ 48)) = true
        · rw [if_pos b2] at h
          by_cases b3 : (v18 == 0) = true
          · rw [if_pos b3] at h
            subst h
            exact AtV.fin Try.func116 tabOk ext116Ok mixed (p116_10 v18 x0) ⟨b0, s0, s1, b1, b2, rfl, b3, rfl, trivial⟩
          · rw [if_neg b3] at h
            replace b3 := Bool.eq_false_iff.2 b3
            by_cases b4 : (!Decidable.decide (List.getD (bytesOf x0) (Int.toNat v18) 0 ≤ 57)) = true
            · rw [if_pos b4] at h
              subst h
              exact AtV.fin Try.func116 tabOk ext116Ok mixed (p116_11 v18 x0) ⟨b0, s0, s1, b1, b2, rfl, b3, b4, trivial⟩
            · rw [if_neg b4] at h
              replace b4 := Bool.eq_false_iff.2 b4
              obtain ⟨s2, h⟩ := h
              exact AtV.runN tabOk ext116Ok mixed (p116_12 v18 x0) ⟨b0, s0, s1, b1, b2, rfl, b3, b4, s2, trivial⟩ (ih4 _ _ _ h w0 O q)
        · rw [if_neg b2] at h
          replace b2 := Bool.eq_false_iff.2 b2
          by_cases b3 : (v18 == 0) = true
          · rw [if_pos b3] at h
            subst h
            exact AtV.fin Try.func116 tabOk ext116Ok mixed (p116_13 v18 x0) ⟨b0, s0, s1, b1, b2, rfl, b3, rfl, trivial⟩
          · rw [if_neg b3] at h
            replace b3 := Bool.eq_false_iff.2 b3
            subst h
            exact AtV.fin Try.func116 tabOk ext116Ok mixed (p116_14 v18 x0) ⟨b0, s0, s1, b1, b2, rfl, b3, rfl, trivial⟩
    · rw [if_neg b0] at h
      replace b0 := Bool.eq_false_iff.2 b0
      subst h
      exact AtV.fin Try.func116 tabOk ext116Ok mixed (p116_15 v18 x0) ⟨b0, trivial⟩



/-- A byte of a name, at its place. -/
def ok116 (i : Nat) (b : Int) : Bool := (decide (97 ≤ b) && decide (b ≤ 122)) || (!(i == 0) && (decide (48 ≤ b) && decide (b ≤ 57)))
def g116_0 (x0 : ByteArray) : Bool := decide (1 ≤ x0.size) && decide (x0.size ≤ 10) && allI ok116 0 (bytesOf x0)
def P116 (x0 : ByteArray) : Prop := True

theorem step116 (n i : Nat) (x0 : ByteArray) (hw : Wf .str x0) (hi : i < (bytesOf x0).length) (ds : List Dyn) :
    R116_4 (n + 1) (i : Int) x0 ds ↔ (if ok116 i ((bytesOf x0).getD i 0) = true then R116_4 n ((i : Int) + 1) x0 ds else ds = [⟨.bool, false⟩]) := by
  have hu := inR_up (xs := bytesOf x0) (by rw [bytesOf_length]; exact hw) hi
  rw [R116_4, if_pos (by simp; omega)]
  simp only [Int.toNat_natCast]
  have hb : (0 : Int) ≤ (i : Int) ∧ (i : Int) < ((bytesOf x0).length : Int) := by omega
  have hz : ((i : Int) == 0) = (i == 0) := by
    cases i with
    | zero => rfl
    | succ k => simp; omega
  simp only [hz, ok116, hu, true_and, hb.1, hb.2, ge_iff_le]
  by_cases h1 : (97 : Int) ≤ (bytesOf x0).getD i 0 <;> by_cases h2 : (bytesOf x0).getD i 0 ≤ 122 <;> by_cases h3 : (48 : Int) ≤ (bytesOf x0).getD i 0 <;> by_cases h4 : (bytesOf x0).getD i 0 ≤ 57 <;> rcases Bool.eq_false_or_eq_true (i == 0) with e0 | e0 <;> first | (exfalso; omega) | simp only [h1, h2, h3, h4, e0, decide_true, decide_false, Bool.not_true, Bool.not_false, Bool.true_and, Bool.false_and, Bool.and_true, Bool.and_false, Bool.true_or, Bool.or_true, Bool.or_false, Bool.false_or, if_true, if_false, Bool.false_eq_true]

theorem top116 (x0 : ByteArray) (hw : Wf .str x0) : R116 (x0.size + 1 + 1) x0 [⟨.bool, g116_0 x0⟩] := by
  have hl := bytesOf_length x0
  rw [R116]
  by_cases h0 : (x0.size : Int) < 1
  · rw [if_pos (by simpa using h0)]
    have : ¬ 1 ≤ x0.size := by omega
    simp [g116_0, this]
  · rw [if_neg (by simpa using h0)]
    by_cases h1 : (x0.size : Int) > 10
    · rw [if_pos (by simpa using h1)]
      have : ¬ x0.size ≤ 10 := by omega
      simp [g116_0, this]
    · rw [if_neg (by simpa using h1)]
      have key := loop_testI (bytesOf x0) 0 ok116 [(⟨.bool, false⟩ : Dyn)] [⟨.bool, true⟩] (fun n i ds => R116_4 n i x0 ds) (fun n => ?_) (fun n i hi hok ds hr => ?_) (fun n i hi hok => ?_)
      · rw [hl] at key
        have e : g116_0 x0 = allI ok116 0 (bytesOf x0) := by
          have a : 1 ≤ x0.size := by omega
          have b : x0.size ≤ 10 := by omega
          simp [g116_0, a, b]
        rw [e]
        cases h : allI ok116 0 (bytesOf x0) with
        | true => rw [if_pos h] at key; exact key
        | false => rw [if_neg (by rw [h]; simp)] at key; exact key
      · show R116_4 (n + 1) ((bytesOf x0).length : Int) x0 _
        rw [R116_4, if_neg (by simp)]
      · exact (step116 n i x0 hw hi ds).2 (by rw [if_pos hok]; exact hr)
      · exact (step116 n i x0 hw hi _).2 (by rw [if_neg (by rw [hok]; simp)])

def S116 : Am.Spec := { sig := sig116, pre := fun ⟨x0, _⟩ => P116 x0, res := fun ⟨x0, _⟩ => [⟨Ty.bool, g116_0 x0⟩] }
theorem con116 : Contract Try.prog 116 S116 := contract_of Try.func116 hb116 (Nat.le_of_ble_eq_true (by kernel_rfl)) (fun ⟨x0, _⟩ h hwf w0 O q =>
  (snd116 _).1 x0 _ (top116 x0 hwf.1) w0 O q)

end Go.Proofs.Ytjkeinpcphkfbaa

/- The contracts of the library that this program uses, laid at this program. Written by a tool of the kit. -/
set_option linter.unusedVariables false
set_option maxRecDepth 100000
namespace Go.Proofs
open Go.Shelf
def Try.lays144_ren : Go.Shelf.Ren := ⟨fun | 144 => 82 | 143 => 114 | 219 => 135 | 217 => 157 | 225 => 158 | 224 => 159 | 267 => 160 | 266 => 169 | 314 => 170 | n => n, fun | 9 => 9 | 4 => 4 | 3 => 3 | 5 => 5 | 46 => 130 | 146 => 156 | 51 => 155 | n => n, fun | 1 => 0 | n => n⟩
theorem Try.lays144 : Go.Proofs.Lays.n144 Try.prog Try.lays144_ren := {
  mixed := by kernel_rfl
  f143 := Try.func114.trans (congrArg some (by kernel_rfl))
  f144 := Try.func82.trans (congrArg some (by kernel_rfl))
  f217 := Try.func157.trans (congrArg some (by kernel_rfl))
  f219 := Try.func135.trans (congrArg some (by kernel_rfl))
  f224 := Try.func159.trans (congrArg some (by kernel_rfl))
  f225 := Try.func158.trans (congrArg some (by kernel_rfl))
  f266 := Try.func169.trans (congrArg some (by kernel_rfl))
  f267 := Try.func160.trans (congrArg some (by kernel_rfl))
  f314 := Try.func170.trans (congrArg some (by kernel_rfl))
  t3 := Try.underlying3
  a3 := Try.isAgg3
  z3 := Try.sizeOf3
  v3 := Try.zeroValue3
  t4 := Try.underlying4
  a4 := Try.isAgg4
  z4 := Try.sizeOf4
  v4 := Try.zeroValue4
  t5 := Try.underlying5
  a5 := Try.isAgg5
  z5 := Try.sizeOf5
  v5 := Try.zeroValue5
  t9 := Try.underlying9
  a9 := Try.isAgg9
  z9 := Try.sizeOf9
  v9 := Try.zeroValue9
  t46 := Try.underlying130
  a46 := Try.isAgg130
  z46 := Try.sizeOf130
  v46 := Try.zeroValue130
  t51 := Try.underlying155
  a51 := Try.isAgg155
  z51 := Try.sizeOf155
  v51 := Try.zeroValue155
  t146 := Try.underlying156
  a146 := Try.isAgg156
  z146 := Try.sizeOf156
  v146 := Try.zeroValue156
  g1 := by kernel_rfl }
open Go.RowKit Go.Lib in theorem Try.strings_Contains (s sub : ByteArray) (m : Int) (w : World) (hs : s.size < 4294967281) (hm : w.cell? ⟨0, 0, none⟩ = some (.int .i64 m)) :
    Calls Try.prog 82 #[.string s, .string sub] w fun e w' => e = .returned (.bool (Lib.contains s.data.toList sub.data.toList)) ∧ w' = w := Any.strings_Contains Try.lays144 s sub m w hs hm
end Go.Proofs

/- Function 82 (strings.Contains): its contract, off what is known of the library. -/
set_option linter.unusedVariables false
set_option linter.unusedSimpArgs false
set_option maxRecDepth 100000
namespace Go.Proofs.Ytjkeinpcphkfbaa
open Go Go.Am Go.Proofs

def sig82 : List AT := [AT.v Ty.str, AT.v Ty.str]
def g82_0 (x0 x1 : ByteArray) : Bool := Lib.contains x0.data.toList x1.data.toList
def P82 (x0 x1 : ByteArray) : Prop := x0.size < 4294967281
def S82 : Am.Spec := { sig := sig82, pre := fun ⟨x0, x1, _⟩ => P82 x0 x1, res := fun ⟨x0, x1, _⟩ => [⟨Ty.bool, g82_0 x0 x1⟩] }
theorem con82 : Contract Try.prog 82 S82 := contract_flat rfl fun w ⟨x0, x1, _⟩ vs bss hg hp hw ha => by
  obtain ⟨v0, s0, _, _, rfl, _, ⟨_, rfl, _⟩, v1, s1, _, _, rfl, _, ⟨_, rfl, _⟩, rfl, _⟩ := ha
  refine ⟨fun d hd => by rw [List.mem_singleton.1 hd]; exact ⟨rfl, trivial⟩, ?_⟩
  obtain ⟨m, hm⟩ := maxLenG hg
  refine (Try.strings_Contains x0 x1 m w hp hm).mono ?_
  rintro e w' ⟨rfl, rfl⟩
  exact ⟨rfl, Kept.refl _ _⟩

end Go.Proofs.Ytjkeinpcphkfbaa

/- Function 84 (impl.ValidBlock): its runs between cut points. Written by a program of this repo (gen). -/
set_option linter.unusedVariables false
set_option linter.unusedSimpArgs false
set_option maxRecDepth 100000
namespace Go.Proofs.Ytjkeinpcphkfbaa
open Go Go.Am Go.Proofs
def ext84 : Ext := [(116, S116), (82, S82)]
theorem call84_116 : Callable Try.prog 116 := ⟨Try.f116, Try.func116, by kernel_rfl, by kernel_rfl⟩
theorem call84_82 : Callable Try.prog 82 := ⟨Try.f82, Try.func82, by kernel_rfl, by kernel_rfl⟩
theorem ext84Ok : ExtOk Try.prog ext84 := ⟨⟨call84_116, con116⟩, ⟨call84_82, con82⟩, trivial⟩
/-! Function 84. -/
noncomputable def b84 : Code := bodyOf Try.f84
theorem hb84 : Try.f84.body = some b84 := by kernel_rfl
def sig84 : List AT := [AT.v (Ty.cons Ty.str (Ty.cons Ty.str (Ty.cons Ty.str Ty.unit)))]
def tys84 : List Ty := [Ty.bool]
def P84 (x0 : ByteArray × ByteArray × ByteArray × Unit) : Prop := (if (g116_0 (Prod.fst x0)) = true then (if (g116_0 (Prod.fst (Prod.snd x0))) = true then (if (Decidable.decide ((↑(ByteArray.size (Prod.fst (Prod.snd (Prod.snd x0)))) : Int) ≤ 400)) = true then ((P82 (Prod.fst (Prod.snd (Prod.snd x0))) (ByteArray.mk #[10])) ∧ True) else True) else True) else True)
def g84_0 (x0 : ByteArray × ByteArray × ByteArray × Unit) : Bool := (if (g116_0 (Prod.fst x0)) = true then (if (g116_0 (Prod.fst (Prod.snd x0))) = true then (if (Decidable.decide ((↑(ByteArray.size (Prod.fst (Prod.snd (Prod.snd x0)))) : Int) ≤ 400)) = true then !g82_0 (Prod.fst (Prod.snd (Prod.snd x0))) (ByteArray.mk #[10]) else Bool.false) else Bool.false) else Bool.false)
theorem p84_0 (x0 : ByteArray × ByteArray × ByteArray × Unit) : runF tab ext84 false 23 [] 2000 [] tys84 Try.f84.results [true, true, true] [.code b84] (entE 0 0 sig84 (x0, ())) (entL sig84 (x0, ())) = some ([Dyn.mk Ty.bool !g82_0 (Prod.fst (Prod.snd (Prod.snd x0))) (ByteArray.mk #[10])], [], [True, g116_0 (Prod.fst x0) = Bool.true, True, g116_0 (Prod.fst (Prod.snd x0)) = Bool.true, Decidable.decide ((↑(ByteArray.size (Prod.fst (Prod.snd (Prod.snd x0)))) : Int) ≤ 400) = Bool.true, P82 (Prod.fst (Prod.snd (Prod.snd x0))) (ByteArray.mk #[10])]) := by kernel_rfl
theorem p84_1 (x0 : ByteArray × ByteArray × ByteArray × Unit) : runF tab ext84 false 23 [] 2000 [] tys84 Try.f84.results [true, true, false] [.code b84] (entE 0 0 sig84 (x0, ())) (entL sig84 (x0, ())) = some ([Dyn.mk Ty.bool Bool.false], [], [True, g116_0 (Prod.fst x0) = Bool.true, True, g116_0 (Prod.fst (Prod.snd x0)) = Bool.true, Decidable.decide ((↑(ByteArray.size (Prod.fst (Prod.snd (Prod.snd x0)))) : Int) ≤ 400) = Bool.false]) := by kernel_rfl
theorem p84_2 (x0 : ByteArray × ByteArray × ByteArray × Unit) : runF tab ext84 false 23 [] 2000 [] tys84 Try.f84.results [true, false, false] [.code b84] (entE 0 0 sig84 (x0, ())) (entL sig84 (x0, ())) = some ([Dyn.mk Ty.bool Bool.false], [], [True, g116_0 (Prod.fst x0) = Bool.true, True, g116_0 (Prod.fst (Prod.snd x0)) = Bool.false, Bool.false = Bool.false]) := by kernel_rfl
theorem p84_3 (x0 : ByteArray × ByteArray × ByteArray × Unit) : runF tab ext84 false 23 [] 2000 [] tys84 Try.f84.results [false, false, false] [.code b84] (entE 0 0 sig84 (x0, ())) (entL sig84 (x0, ())) = some ([Dyn.mk Ty.bool Bool.false], [], [True, g116_0 (Prod.fst x0) = Bool.false, Bool.false = Bool.false, Bool.false = Bool.false]) := by kernel_rfl
theorem at84 (x0 : ByteArray × ByteArray × ByteArray × Unit) (h : P84 x0) (w0 : World) (O : List Nat) (q : Nat → Value) : AtV Try.prog 84 (PostR [⟨Ty.bool, g84_0 x0⟩] [] [] q w0 O) 23 w0 O q [] [.code b84] (entE 0 0 sig84 (x0, ())) (entL sig84 (x0, ())) := by
  unfold P84 at h
  unfold g84_0
  by_cases b0 : (g116_0 (Prod.fst x0)) = true
  · try simp only [if_pos b0] at h ⊢
    by_cases b1 : (g116_0 (Prod.fst (Prod.snd x0))) = true
    · try simp only [if_pos b1] at h ⊢
      by_cases b2 : (Decidable.decide ((↑(ByteArray.size (Prod.fst (Prod.snd (Prod.snd x0)))) : Int) ≤ 400)) = true
      · try simp only [if_pos b2] at h ⊢
        obtain ⟨s0, h⟩ := h
        exact AtV.fin Try.func84 tabOk ext84Ok mixed (p84_0 x0) ⟨trivial, b0, trivial, b1, b2, s0, trivial⟩
      · try simp only [if_neg b2] at h ⊢
        replace b2 := Bool.eq_false_iff.2 b2
        exact AtV.fin Try.func84 tabOk ext84Ok mixed (p84_1 x0) ⟨trivial, b0, trivial, b1, b2, trivial⟩
    · try simp only [if_neg b1] at h ⊢
      replace b1 := Bool.eq_false_iff.2 b1
      exact AtV.fin Try.func84 tabOk ext84Ok mixed (p84_2 x0) ⟨trivial, b0, trivial, b1, rfl, trivial⟩
  · try simp only [if_neg b0] at h ⊢
    replace b0 := Bool.eq_false_iff.2 b0
    exact AtV.fin Try.func84 tabOk ext84Ok mixed (p84_3 x0) ⟨trivial, b0, rfl, rfl, trivial⟩

def S84 : Am.Spec := { sig := sig84, pre := fun ⟨x0, _⟩ => P84 x0, res := fun ⟨x0, _⟩ => [⟨Ty.bool, g84_0 x0⟩] }
theorem con84 : Contract Try.prog 84 S84 := contract_of Try.func84 hb84 (Nat.le_of_ble_eq_true (by kernel_rfl)) (fun ⟨x0, _⟩ h _ w0 O q => at84 x0 h w0 O q)


theorem pre84 (x : ByteArray × ByteArray × ByteArray × Unit) : P84 x := by
  unfold P84
  split
  · split
    · split
      · rename_i h
        simp only [decide_eq_true_eq] at h
        refine ⟨?_, trivial⟩
        show x.2.2.1.size < 4294967281
        omega
      · trivial
    · trivial
  · trivial

end Go.Proofs.Ytjkeinpcphkfbaa

/- Function 136 (cmp.isNaN[string]): its runs between cut points. Written by a program of this repo (gen). -/
set_option linter.unusedVariables false
set_option linter.unusedSimpArgs false
set_option maxRecDepth 100000
namespace Go.Proofs.Ytjkeinpcphkfbaa
open Go Go.Am Go.Proofs
def ext136 : Ext := []
theorem ext136Ok : ExtOk Try.prog ext136 := trivial
/-! Function 136. -/
noncomputable def b136 : Code := bodyOf Try.f136
theorem hb136 : Try.f136.body = some b136 := by kernel_rfl
def sig136 : List AT := [AT.v (Ty.str)]
def tys136 : List Ty := [Ty.bool]
def P136 (x0 : ByteArray) : Prop := True
def g136_0 (x0 : ByteArray) : Bool := !ByteArray.toList x0 == ByteArray.toList x0
theorem p136_0 (x0 : ByteArray) : runF tab ext136 false 6 [] 2000 [] tys136 Try.f136.results [] [.code b136] (entE 0 0 sig136 (x0, ())) (entL sig136 (x0, ())) = some ([Dyn.mk Ty.bool !ByteArray.toList x0 == ByteArray.toList x0], [], []) := by kernel_rfl
theorem at136 (x0 : ByteArray) (h : P136 x0) (w0 : World) (O : List Nat) (q : Nat → Value) : AtV Try.prog 136 (PostR [⟨Ty.bool, g136_0 x0⟩] [] [] q w0 O) 6 w0 O q [] [.code b136] (entE 0 0 sig136 (x0, ())) (entL sig136 (x0, ())) := by
  unfold P136 at h
  unfold g136_0
  exact AtV.fin Try.func136 tabOk ext136Ok mixed (p136_0 x0) trivial

def S136 : Am.Spec := { sig := sig136, pre := fun ⟨x0, _⟩ => P136 x0, res := fun ⟨x0, _⟩ => [⟨Ty.bool, g136_0 x0⟩] }
theorem con136 : Contract Try.prog 136 S136 := contract_of Try.func136 hb136 (Nat.le_of_ble_eq_true (by kernel_rfl)) (fun ⟨x0, _⟩ h _ w0 O q => at136 x0 h w0 O q)


end Go.Proofs.Ytjkeinpcphkfbaa

/- Function 118 (cmp.Compare[string]): its runs between cut points. Written by a program of this repo (gen). -/
set_option linter.unusedVariables false
set_option linter.unusedSimpArgs false
set_option maxRecDepth 100000
namespace Go.Proofs.Ytjkeinpcphkfbaa
open Go Go.Am Go.Proofs
def ext118 : Ext := [(136, S136)]
theorem call118_136 : Callable Try.prog 136 := ⟨Try.f136, Try.func136, by kernel_rfl, by kernel_rfl⟩
theorem ext118Ok : ExtOk Try.prog ext118 := ⟨⟨call118_136, con136⟩, trivial⟩
/-! Function 118. -/
noncomputable def b118 : Code := bodyOf Try.f118
theorem hb118 : Try.f118.body = some b118 := by kernel_rfl
def sig118 : List AT := [AT.v (Ty.str), AT.v (Ty.str)]
def tys118 : List Ty := [Ty.int IntKind.i64]
def P118 (x0 : ByteArray) (x1 : ByteArray) : Prop := True
def g118_0 (x0 : ByteArray) (x1 : ByteArray) : Int := (if (g136_0 x0) = true then (if (g136_0 x1) = true then 0 else -1) else (if (g136_0 x1) = true then 1 else (if (Op.bytesLess (ByteArray.toList x0) (ByteArray.toList x1)) = true then -1 else (if (!(Op.bytesLess (ByteArray.toList x0) (ByteArray.toList x1) || ByteArray.toList x0 == ByteArray.toList x1)) = true then 1 else 0))))
theorem p118_0 (x0 : ByteArray) (x1 : ByteArray) : runF tab ext118 false 20 [] 2000 [] tys118 Try.f118.results [true, true] [.code b118] (entE 0 0 sig118 (x0, x1, ())) (entL sig118 (x0, x1, ())) = some ([Dyn.mk (Ty.int IntKind.i64) 0], [], [True, True, g136_0 x0 = Bool.true, g136_0 x1 = Bool.true]) := by kernel_rfl
theorem p118_1 (x0 : ByteArray) (x1 : ByteArray) : runF tab ext118 false 20 [] 2000 [] tys118 Try.f118.results [true, false] [.code b118] (entE 0 0 sig118 (x0, x1, ())) (entL sig118 (x0, x1, ())) = some ([Dyn.mk (Ty.int IntKind.i64) (-1)], [], [True, True, g136_0 x0 = Bool.true, g136_0 x1 = Bool.false]) := by kernel_rfl
theorem p118_2 (x0 : ByteArray) (x1 : ByteArray) : runF tab ext118 false 20 [] 2000 [] tys118 Try.f118.results [false, true] [.code b118] (entE 0 0 sig118 (x0, x1, ())) (entL sig118 (x0, x1, ())) = some ([Dyn.mk (Ty.int IntKind.i64) 1], [], [True, True, g136_0 x0 = Bool.false, g136_0 x1 = Bool.true]) := by kernel_rfl
theorem p118_3 (x0 : ByteArray) (x1 : ByteArray) : runF tab ext118 false 20 [] 2000 [] tys118 Try.f118.results [false, false, true] [.code b118] (entE 0 0 sig118 (x0, x1, ())) (entL sig118 (x0, x1, ())) = some ([Dyn.mk (Ty.int IntKind.i64) (-1)], [], [True, True, g136_0 x0 = Bool.false, g136_0 x1 = Bool.false, Op.bytesLess (ByteArray.toList x0) (ByteArray.toList x1) = Bool.true]) := by kernel_rfl
theorem p118_4 (x0 : ByteArray) (x1 : ByteArray) : runF tab ext118 false 20 [] 2000 [] tys118 Try.f118.results [false, false, false, true] [.code b118] (entE 0 0 sig118 (x0, x1, ())) (entL sig118 (x0, x1, ())) = some ([Dyn.mk (Ty.int IntKind.i64) 1], [], [True, True, g136_0 x0 = Bool.false, g136_0 x1 = Bool.false, Op.bytesLess (ByteArray.toList x0) (ByteArray.toList x1) = Bool.false, (!(Op.bytesLess (ByteArray.toList x0) (ByteArray.toList x1) || ByteArray.toList x0 == ByteArray.toList x1)) = Bool.true]) := by kernel_rfl
theorem p118_5 (x0 : ByteArray) (x1 : ByteArray) : runF tab ext118 false 20 [] 2000 [] tys118 Try.f118.results [false, false, false, false] [.code b118] (entE 0 0 sig118 (x0, x1, ())) (entL sig118 (x0, x1, ())) = some ([Dyn.mk (Ty.int IntKind.i64) 0], [], [True, True, g136_0 x0 = Bool.false, g136_0 x1 = Bool.false, Op.bytesLess (ByteArray.toList x0) (ByteArray.toList x1) = Bool.false, (!(Op.bytesLess (ByteArray.toList x0) (ByteArray.toList x1) || ByteArray.toList x0 == ByteArray.toList x1)) = Bool.false]) := by kernel_rfl
theorem at118 (x0 : ByteArray) (x1 : ByteArray) (h : P118 x0 x1) (w0 : World) (O : List Nat) (q : Nat → Value) : AtV Try.prog 118 (PostR [⟨Ty.int IntKind.i64, g118_0 x0 x1⟩] [] [] q w0 O) 20 w0 O q [] [.code b118] (entE 0 0 sig118 (x0, x1, ())) (entL sig118 (x0, x1, ())) := by
  unfold P118 at h
  unfold g118_0
  by_cases b0 : (g136_0 x0) = true
  · try simp only [if_pos b0] at h ⊢
    by_cases b1 : (g136_0 x1) = true
    · try simp only [if_pos b1] at h ⊢
      exact AtV.fin Try.func118 tabOk ext118Ok mixed (p118_0 x0 x1) ⟨trivial, trivial, b0, b1, trivial⟩
    · try simp only [if_neg b1] at h ⊢
      replace b1 := Bool.eq_false_iff.2 b1
      exact AtV.fin Try.func118 tabOk ext118Ok mixed (p118_1 x0 x1) ⟨trivial, trivial, b0, b1, trivial⟩
  · try simp only [if_neg b0] at h ⊢
    replace b0 := Bool.eq_false_iff.2 b0
    by_cases b1 : (g136_0 x1) = true
    · try simp only [if_pos b1] at h ⊢
      exact AtV.fin Try.func118 tabOk ext118Ok mixed (p118_2 x0 x1) ⟨trivial, trivial, b0, b1, trivial⟩
    · try simp only [if_neg b1] at h ⊢
      replace b1 := Bool.eq_false_iff.2 b1
      by_cases b2 : (Op.bytesLess (ByteArray.toList x0) (ByteArray.toList x1)) = true
      · try simp only [if_pos b2] at h ⊢
        exact AtV.fin Try.func118 tabOk ext118Ok mixed (p118_3 x0 x1) ⟨trivial, trivial, b0, b1, b2, trivial⟩
      · try simp only [if_neg b2] at h ⊢
        replace b2 := Bool.eq_false_iff.2 b2
        by_cases b3 : (!(Op.bytesLess (ByteArray.toList x0) (ByteArray.toList x1) || ByteArray.toList x0 == ByteArray.toList x1)) = true
        · try simp only [if_pos b3] at h ⊢
          exact AtV.fin Try.func118 tabOk ext118Ok mixed (p118_4 x0 x1) ⟨trivial, trivial, b0, b1, b2, b3, trivial⟩
        · try simp only [if_neg b3] at h ⊢
          replace b3 := Bool.eq_false_iff.2 b3
          exact AtV.fin Try.func118 tabOk ext118Ok mixed (p118_5 x0 x1) ⟨trivial, trivial, b0, b1, b2, b3, trivial⟩

def S118 : Am.Spec := { sig := sig118, pre := fun ⟨x0, x1, _⟩ => P118 x0 x1, res := fun ⟨x0, x1, _⟩ => [⟨Ty.int IntKind.i64, g118_0 x0 x1⟩] }
theorem con118 : Contract Try.prog 118 S118 := contract_of Try.func118 hb118 (Nat.le_of_ble_eq_true (by kernel_rfl)) (fun ⟨x0, x1, _⟩ h _ w0 O q => at118 x0 x1 h w0 O q)


end Go.Proofs.Ytjkeinpcphkfbaa

/- Function 117 (cmp.Or[int]): its runs between cut points. Written by a program of this repo (gen). -/
set_option linter.unusedVariables false
set_option linter.unusedSimpArgs false
set_option maxRecDepth 100000
namespace Go.Proofs.Ytjkeinpcphkfbaa
open Go Go.Am Go.Proofs
def ext117 : Ext := []
theorem ext117Ok : ExtOk Try.prog ext117 := trivial
/-! Function 117. -/
noncomputable def b117 : Code := bodyOf Try.f117
theorem hb117 : Try.f117.body = some b117 := by kernel_rfl
def sig117 : List AT := [AT.v (Ty.sl (Ty.int IntKind.i64))]
def tys117 : List Ty := [Ty.int IntKind.i64]
def E117_3 (v8 : Int) (x0 : List Int) : Env := [(3, PV.a (Atom.val (Value.int IntKind.i64 0))), (6, PV.a (Atom.sl (Ty.int IntKind.i64) x0)), (7, PV.a (Atom.val (Value.int IntKind.i64 (↑(List.length x0) : Int)))), (8, PV.a (Atom.val (Value.int IntKind.i64 v8)))]
def L117_3 (v8 : Int) (x0 : List Int) : Heap := []
mutual
def R117 : Nat → List Int → List Dyn → Prop
  | 0, _, _ => False
  | n + 1, x0, ds => (R117_3 n (0) (x0) ds)
def R117_3 : Nat → Int → List Int → List Dyn → Prop
  | 0, _, _, _ => False
  | n + 1, v8, x0, ds => (if (Decidable.decide (v8 < (↑(List.length x0) : Int))) = true then ((0 ≤ v8) ∧ (v8 < (↑(List.length x0) : Int)) ∧ (if (List.getD x0 (Int.toNat v8) 0 != 0) = true then (ds = [Dyn.mk (Ty.int IntKind.i64) (List.getD x0 (Int.toNat v8) 0)]) else ((InR IntKind.i64 (v8 + 1)) ∧ (R117_3 n (v8 + 1) (x0) ds)))) else (ds = [Dyn.mk (Ty.int IntKind.i64) 0]))
end
theorem p117_0 (x0 : List Int) : Am.runN tab ext117 false 18 [] 2000 [] [] [3, 6, 7, 8] [] [] [.code b117] (entE 0 0 sig117 (x0, ())) (entL sig117 (x0, ())) = some (cutAt b117 3, E117_3 (0) (x0), L117_3 (0) (x0), []) := by kernel_rfl
theorem p117_1 (v8 : Int) (x0 : List Int) : runF tab ext117 false 18 [] 2000 [] tys117 Try.f117.results [true, true] (cutAt b117 3) (E117_3 v8 x0) (L117_3 v8 x0) = some ([Dyn.mk (Ty.int IntKind.i64) (List.getD x0 (Int.toNat v8) 0)], [], [Decidable.decide (v8 < (↑(List.length x0) : Int)) = Bool.true, 0 ≤ v8, v8 < (↑(List.length x0) : Int), (List.getD x0 (Int.toNat v8) 0 != 0) = Bool.true]) := by kernel_rfl
theorem p117_2 (v8 : Int) (x0 : List Int) : Am.runN tab ext117 false 18 [] 2000 [] [] [3, 6, 7, 8] [] [true, false] (cutAt b117 3) (E117_3 v8 x0) (L117_3 v8 x0) = some (cutAt b117 3, E117_3 (v8 + 1) (x0), L117_3 (v8 + 1) (x0), [Decidable.decide (v8 < (↑(List.length x0) : Int)) = Bool.true, 0 ≤ v8, v8 < (↑(List.length x0) : Int), (List.getD x0 (Int.toNat v8) 0 != 0) = Bool.false, InR IntKind.i64 (v8 + 1)]) := by kernel_rfl
theorem p117_3 (v8 : Int) (x0 : List Int) : runF tab ext117 false 18 [] 2000 [] tys117 Try.f117.results [false] (cutAt b117 3) (E117_3 v8 x0) (L117_3 v8 x0) = some ([Dyn.mk (Ty.int IntKind.i64) 0], [], [Decidable.decide (v8 < (↑(List.length x0) : Int)) = Bool.false]) := by kernel_rfl
theorem snd117 : ∀ n, (∀ (x0 : List Int) ds, R117 n x0 ds → ∀ w0 O q, AtV Try.prog 117 (PostR ds [] [] q w0 O) 18 w0 O q [] [.code b117] (entE 0 0 sig117 (x0, ())) (entL sig117 (x0, ()))) ∧ (∀ (v8 : Int) (x0 : List Int) ds, R117_3 n v8 x0 ds → ∀ w0 O q, AtV Try.prog 117 (PostR ds [] [] q w0 O) 18 w0 O q [] (cutAt b117 3) (E117_3 v8 x0) (L117_3 v8 x0)) := by
  intro n
  induction n with
  | zero => exact ⟨fun _ _ h => by simp only [R117] at h, fun _ _ _ h => by simp only [R117_3] at h⟩
  | succ n ih =>
  obtain ⟨ih, ih3⟩ := ih
  refine ⟨?_, ?_⟩
  · intro x0 ds h w0 O q
    rw [R117] at h
    exact AtV.runN tabOk ext117Ok mixed (p117_0 x0) trivial (ih3 _ _ _ h w0 O q)

  · intro v8 x0 ds h w0 O q
    rw [R117_3] at h
    by_cases b0 : (Decidable.decide (v8 < (↑(List.length x0) : Int))) = true
    · rw [if_pos b0] at h
      obtain ⟨s0, s1, h⟩ := h
      by_cases b1 : (List.getD x0 (Int.toNat v8) 0 != 0) = true
      · rw [if_pos b1] at h
        subst h
        exact AtV.fin Try.func117 tabOk ext117Ok mixed (p117_1 v8 x0) ⟨b0, s0, s1, b1, trivial⟩
      · rw [if_neg b1] at h
        replace b1 := Bool.eq_false_iff.2 b1
        obtain ⟨s2, h⟩ := h
        exact AtV.runN tabOk ext117Ok mixed (p117_2 v8 x0) ⟨b0, s0, s1, b1, s2, trivial⟩ (ih3 _ _ _ h w0 O q)
    · rw [if_neg b0] at h
      replace b0 := Bool.eq_false_iff.2 b0
      subst h
      exact AtV.fin Try.func117 tabOk ext117Ok mixed (p117_3 v8 x0) ⟨b0, trivial⟩



def g117_0 : List Int → Int
  | [] => 0
  | x :: r => if x != 0 then x else g117_0 r
def P117 (x0 : List Int) : Prop := True

theorem goL117 : ∀ (xs : List Int), goL (fun (_ : Unit) (x : Int) => if (x != 0) = true then Except.error [(⟨.int .i64, x⟩ : Dyn)] else .ok ()) (fun _ => [⟨.int .i64, (0 : Int)⟩]) () xs = [⟨.int .i64, g117_0 xs⟩]
  | [] => rfl
  | x :: r => by
    simp only [goL, g117_0]
    cases h : x != 0 with
    | true => simp
    | false => simpa using goL117 r

theorem top117 (x0 : List Int) (hm : x0.length ≤ maxLen) : R117 (x0.length + 1 + 1) x0 [⟨.int .i64, g117_0 x0⟩] := by
  rw [R117, ← goL117]
  refine loop_all x0 0 _ _ (fun _ _ => True) (fun n i _ ds => R117_3 n i x0 ds) trivial ?_ ?_
  · intro n b _
    show R117_3 (n + 1) x0.length x0 _
    rw [R117_3, if_neg (by simp)]
  · intro n i b hi _
    cases h : (x0.getD i 0 != 0) with
    | true =>
      show R117_3 (n + 1) (i : Int) x0 _
      rw [R117_3, if_pos (by simp; omega)]
      refine ⟨by omega, by omega, ?_⟩
      simp only [Int.toNat_natCast]
      rw [if_pos h] <;> trivial
    | false =>
      refine ⟨trivial, fun ds hr => ?_⟩
      rw [R117_3, if_pos (by simp; omega)]
      refine ⟨by omega, by omega, ?_⟩
      simp only [Int.toNat_natCast]
      rw [if_neg (by rw [h]; simp)]
      exact ⟨inR_up hm hi, hr⟩

def S117 : Am.Spec := { sig := sig117, pre := fun ⟨x0, _⟩ => P117 x0, res := fun ⟨x0, _⟩ => [⟨Ty.int .i64, g117_0 x0⟩] }
theorem con117 : Contract Try.prog 117 S117 := contract_of Try.func117 hb117 (Nat.le_of_ble_eq_true (by kernel_rfl)) (fun ⟨x0, _⟩ h hwf w0 O q =>
  (snd117 _).1 x0 _ (top117 x0 hwf.1.1) w0 O q)

end Go.Proofs.Ytjkeinpcphkfbaa

/- Function 85 (impl.compareBlocks): its runs between cut points. Written by a program of this repo (gen). -/
set_option linter.unusedVariables false
set_option linter.unusedSimpArgs false
set_option maxRecDepth 100000
namespace Go.Proofs.Ytjkeinpcphkfbaa
open Go Go.Am Go.Proofs
def ext85 : Ext := [(118, S118), (117, S117)]
theorem call85_118 : Callable Try.prog 118 := ⟨Try.f118, Try.func118, by kernel_rfl, by kernel_rfl⟩
theorem call85_117 : Callable Try.prog 117 := ⟨Try.f117, Try.func117, by kernel_rfl, by kernel_rfl⟩
theorem ext85Ok : ExtOk Try.prog ext85 := ⟨⟨call85_118, con118⟩, ⟨call85_117, con117⟩, trivial⟩
/-! Function 85. -/
noncomputable def b85 : Code := bodyOf Try.f85
theorem hb85 : Try.f85.body = some b85 := by kernel_rfl
def sig85 : List AT := [AT.v (Ty.cons Ty.str (Ty.cons Ty.str (Ty.cons Ty.str Ty.unit))), AT.v (Ty.cons Ty.str (Ty.cons Ty.str (Ty.cons Ty.str Ty.unit)))]
def tys85 : List Ty := [Ty.int IntKind.i64]
def P85 (x0 : ByteArray × ByteArray × ByteArray × Unit) (x1 : ByteArray × ByteArray × ByteArray × Unit) : Prop := True
def g85_0 (x0 : ByteArray × ByteArray × ByteArray × Unit) (x1 : ByteArray × ByteArray × ByteArray × Unit) : Int := g117_0 [g118_0 (Prod.fst x0) (Prod.fst x1), g118_0 (Prod.fst (Prod.snd x0)) (Prod.fst (Prod.snd x1))]
theorem p85_0 (x0 : ByteArray × ByteArray × ByteArray × Unit) (x1 : ByteArray × ByteArray × ByteArray × Unit) : runF tab ext85 false 17 [] 2000 [] tys85 Try.f85.results [] [.code b85] (entE 0 0 sig85 (x0, x1, ())) (entL sig85 (x0, x1, ())) = some ([Dyn.mk (Ty.int IntKind.i64) (g117_0 [g118_0 (Prod.fst x0) (Prod.fst x1), g118_0 (Prod.fst (Prod.snd x0)) (Prod.fst (Prod.snd x1))])], [], [True, True, True]) := by kernel_rfl
theorem at85 (x0 : ByteArray × ByteArray × ByteArray × Unit) (x1 : ByteArray × ByteArray × ByteArray × Unit) (h : P85 x0 x1) (w0 : World) (O : List Nat) (q : Nat → Value) : AtV Try.prog 85 (PostR [⟨Ty.int IntKind.i64, g85_0 x0 x1⟩] [] [] q w0 O) 17 w0 O q [] [.code b85] (entE 0 0 sig85 (x0, x1, ())) (entL sig85 (x0, x1, ())) := by
  unfold P85 at h
  unfold g85_0
  exact AtV.fin Try.func85 tabOk ext85Ok mixed (p85_0 x0 x1) ⟨trivial, trivial, trivial, trivial⟩

def S85 : Am.Spec := { sig := sig85, pre := fun ⟨x0, x1, _⟩ => P85 x0 x1, res := fun ⟨x0, x1, _⟩ => [⟨Ty.int IntKind.i64, g85_0 x0 x1⟩] }
theorem con85 : Contract Try.prog 85 S85 := contract_of Try.func85 hb85 (Nat.le_of_ble_eq_true (by kernel_rfl)) (fun ⟨x0, x1, _⟩ h _ w0 O q => at85 x0 x1 h w0 O q)


end Go.Proofs.Ytjkeinpcphkfbaa

/- Function 37 (impl.ValidBlocks): its runs between cut points. Written by a program of this repo (gen). -/
set_option linter.unusedVariables false
set_option linter.unusedSimpArgs false
set_option maxRecDepth 100000
namespace Go.Proofs.Ytjkeinpcphkfbaa
open Go Go.Am Go.Proofs
def ext37 : Ext := [(84, S84), (85, S85)]
theorem call37_84 : Callable Try.prog 84 := ⟨Try.f84, Try.func84, by kernel_rfl, by kernel_rfl⟩
theorem call37_85 : Callable Try.prog 85 := ⟨Try.f85, Try.func85, by kernel_rfl, by kernel_rfl⟩
theorem ext37Ok : ExtOk Try.prog ext37 := ⟨⟨call37_84, con84⟩, ⟨call37_85, con85⟩, trivial⟩
/-! Function 37. -/
noncomputable def b37 : Code := bodyOf Try.f37
theorem hb37 : Try.f37.body = some b37 := by kernel_rfl
def sig37 : List AT := [AT.v (Ty.sl (Ty.cons Ty.str (Ty.cons Ty.str (Ty.cons Ty.str Ty.unit))))]
def tys37 : List Ty := [Ty.bool]
def E37_2 (v7 : Int) (x0 : List (ByteArray × ByteArray × ByteArray × Unit)) : Env := [(0, PV.a (Atom.sl (Ty.cons Ty.str (Ty.cons Ty.str (Ty.cons Ty.str Ty.unit))) x0)), (5, PV.a (Atom.sl (Ty.cons Ty.str (Ty.cons Ty.str (Ty.cons Ty.str Ty.unit))) x0)), (6, PV.a (Atom.val (Value.int IntKind.i64 (↑(List.length x0) : Int)))), (7, PV.a (Atom.val (Value.int IntKind.i64 v7)))]
def L37_2 (v7 : Int) (x0 : List (ByteArray × ByteArray × ByteArray × Unit)) : Heap := []
mutual
def R37 : Nat → List (ByteArray × ByteArray × ByteArray × Unit) → List Dyn → Prop
  | 0, _, _ => False
  | n + 1, x0, ds => (R37_2 n (0) (x0) ds)
def R37_2 : Nat → Int → List (ByteArray × ByteArray × ByteArray × Unit) → List Dyn → Prop
  | 0, _, _, _ => False
  | n + 1, v7, x0, ds => (if (Decidable.decide (v7 < (↑(List.length x0) : Int))) = true then ((0 ≤ v7) ∧ (v7 < (↑(List.length x0) : Int)) ∧ ((P84 (List.getD x0 (Int.toNat v7) (ByteArray.empty, ByteArray.empty, ByteArray.empty, ()))) ∧ (if (!g84_0 (List.getD x0 (Int.toNat v7) (ByteArray.empty, ByteArray.empty, ByteArray.empty, ()))) = true then (ds = [Dyn.mk Ty.bool Bool.false]) else (if (Decidable.decide (v7 > 0)) = true then ((InR IntKind.i64 (v7 - 1)) ∧ ((0 ≤ v7 - 1) ∧ (v7 - 1 < (↑(List.length x0) : Int)) ∧ (if (Decidable.decide (g85_0 (List.getD x0 (Int.toNat (v7 - 1)) (ByteArray.empty, ByteArray.empty, ByteArray.empty, ())) (List.getD x0 (Int.toNat v7) (ByteArray.empty, ByteArray.empty, ByteArray.empty, ())) ≥ 0)) = true then (ds = [Dyn.mk Ty.bool Bool.false]) else ((InR IntKind.i64 (v7 + 1)) ∧ (R37_2 n (v7 + 1) (x0) ds))))) else ((InR IntKind.i64 (v7 + 1)) ∧ (R37_2 n (v7 + 1) (x0) ds)))))) else (ds = [Dyn.mk Ty.bool (Decidable.decide ((↑(List.length x0) : Int) ≤ 32))]))
end
theorem p37_0 (x0 : List (ByteArray × ByteArray × ByteArray × Unit)) : Am.runN tab ext37 false 33 [] 2000 [] [] [0, 5, 6, 7] [] [] [.code b37] (entE 0 0 sig37 (x0, ())) (entL sig37 (x0, ())) = some (cutAt b37 2, E37_2 (0) (x0), L37_2 (0) (x0), []) := by kernel_rfl
theorem p37_1 (v7 : Int) (x0 : List (ByteArray × ByteArray × ByteArray × Unit)) : runF tab ext37 false 33 [] 2000 [] tys37 Try.f37.results [true, true, true] (cutAt b37 2) (E37_2 v7 x0) (L37_2 v7 x0) = some ([Dyn.mk Ty.bool Bool.false], [], [Decidable.decide (v7 < (↑(List.length x0) : Int)) = Bool.true, 0 ≤ v7, v7 < (↑(List.length x0) : Int), P84 (List.getD x0 (Int.toNat v7) (ByteArray.empty, ByteArray.empty, ByteArray.empty, ())), (!g84_0 (List.getD x0 (Int.toNat v7) (ByteArray.empty, ByteArray.empty, ByteArray.empty, ()))) = Bool.true, Bool.true = Bool.true]) := by kernel_rfl
theorem p37_2 (v7 : Int) (x0 : List (ByteArray × ByteArray × ByteArray × Unit)) : runF tab ext37 false 33 [] 2000 [] tys37 Try.f37.results [true, false, true, true] (cutAt b37 2) (E37_2 v7 x0) (L37_2 v7 x0) = some ([Dyn.mk Ty.bool Bool.false], [], [Decidable.decide (v7 < (↑(List.length x0) : Int)) = Bool.true, 0 ≤ v7, v7 < (↑(List.length x0) : Int), P84 (List.getD x0 (Int.toNat v7) (ByteArray.empty, ByteArray.empty, ByteArray.empty, ())), (!g84_0 (List.getD x0 (Int.toNat v7) (ByteArray.empty, ByteArray.empty, ByteArray.empty, ()))) = Bool.false, Decidable.decide (v7 > 0) = Bool.true, InR IntKind.i64 (v7 - 1), 0 ≤ v7 - 1, v7 - 1 < (↑(List.length x0) : Int), True, Decidable.decide (g85_0 (List.getD x0 (Int.toNat (v7 - 1)) (ByteArray.empty, ByteArray.empty, ByteArray.empty, ())) (List.getD x0 (Int.toNat v7) (ByteArray.empty, ByteArray.empty, ByteArray.empty, ())) ≥ 0) = Bool.true]) := by kernel_rfl
theorem p37_3 (v7 : Int) (x0 : List (ByteArray × ByteArray × ByteArray × Unit)) : Am.runN tab ext37 false 33 [] 2000 [] [] [0, 5, 6, 7] [] [true, false, true, false] (cutAt b37 2) (E37_2 v7 x0) (L37_2 v7 x0) = some (cutAt b37 2, E37_2 (v7 + 1) (x0), L37_2 (v7 + 1) (x0), [Decidable.decide (v7 < (↑(List.length x0) : Int)) = Bool.true, 0 ≤ v7, v7 < (↑(List.length x0) : Int), P84 (List.getD x0 (Int.toNat v7) (ByteArray.empty, ByteArray.empty, ByteArray.empty, ())), (!g84_0 (List.getD x0 (Int.toNat v7) (ByteArray.empty, ByteArray.empty, ByteArray.empty, ()))) = Bool.false, Decidable.decide (v7 > 0) = Bool.true, InR IntKind.i64 (v7 - 1), 0 ≤ v7 - 1, v7 - 1 < (↑(List.length x0) : Int), True, Decidable.decide (g85_0 (List.getD x0 (Int.toNat (v7 - 1)) (ByteArray.empty, ByteArray.empty, ByteArray.empty, ())) (List.getD x0 (Int.toNat v7) (ByteArray.empty, ByteArray.empty, ByteArray.empty, ())) ≥ 0) = Bool.false, InR IntKind.i64 (v7 + 1)]) := by kernel_rfl
theorem p37_4 (v7 : Int) (x0 : List (ByteArray × ByteArray × ByteArray × Unit)) : Am.runN tab ext37 false 33 [] 2000 [] [] [0, 5, 6, 7] [] [true, false, false, false] (cutAt b37 2) (E37_2 v7 x0) (L37_2 v7 x0) = some (cutAt b37 2, E37_2 (v7 + 1) (x0), L37_2 (v7 + 1) (x0), [Decidable.decide (v7 < (↑(List.length x0) : Int)) = Bool.true, 0 ≤ v7, v7 < (↑(List.length x0) : Int), P84 (List.getD x0 (Int.toNat v7) (ByteArray.empty, ByteArray.empty, ByteArray.empty, ())), (!g84_0 (List.getD x0 (Int.toNat v7) (ByteArray.empty, ByteArray.empty, ByteArray.empty, ()))) = Bool.false, Decidable.decide (v7 > 0) = Bool.false, Bool.false = Bool.false, InR IntKind.i64 (v7 + 1)]) := by kernel_rfl
theorem p37_5 (v7 : Int) (x0 : List (ByteArray × ByteArray × ByteArray × Unit)) : runF tab ext37 false 33 [] 2000 [] tys37 Try.f37.results [false] (cutAt b37 2) (E37_2 v7 x0) (L37_2 v7 x0) = some ([Dyn.mk Ty.bool (Decidable.decide ((↑(List.length x0) : Int) ≤ 32))], [], [Decidable.decide (v7 < (↑(List.length x0) : Int)) = Bool.false]) := by kernel_rfl
theorem snd37 : ∀ n, (∀ (x0 : List (ByteArray × ByteArray × ByteArray × Unit)) ds, R37 n x0 ds → ∀ w0 O q, AtV Try.prog 37 (PostR ds [] [] q w0 O) 33 w0 O q [] [.code b37] (entE 0 0 sig37 (x0, ())) (entL sig37 (x0, ()))) ∧ (∀ (v7 : Int) (x0 : List (ByteArray × ByteArray × ByteArray × Unit)) ds, R37_2 n v7 x0 ds → ∀ w0 O q, AtV Try.prog 37 (PostR ds [] [] q w0 O) 33 w0 O q [] (cutAt b37 2) (E37_2 v7 x0) (L37_2 v7 x0)) := by
  intro n
  induction n with
  | zero => exact ⟨fun _ _ h => by simp only [R37] at h, fun _ _ _ h => by simp only [R37_2] at h⟩
  | succ n ih =>
  obtain ⟨ih, ih2⟩ := ih
  refine ⟨?_, ?_⟩
  · intro x0 ds h w0 O q
    rw [R37] at h
    exact AtV.runN tabOk ext37Ok mixed (p37_0 x0) trivial (ih2 _ _ _ h w0 O q)

  · intro v7 x0 ds h w0 O q
    rw [R37_2] at h
    by_cases b0 : (Decidable.decide (v7 < (↑(List.length x0) : Int))) = true
    · rw [if_pos b0] at h
      obtain ⟨s0, s1, h⟩ := h
      obtain ⟨s2, h⟩ := h
      by_cases b1 : (!g84_0 (List.getD x0 (Int.toNat v7) (ByteArray.empty, ByteArray.empty, ByteArray.empty, ()))) = true
      · rw [if_pos b1] at h
        subst h
        exact AtV.fin Try.func37 tabOk ext37Ok mixed (p37_1 v7 x0) ⟨b0, s0, s1, s2, b1, rfl, trivial⟩
      · rw [if_neg b1] at h
        replace b1 := Bool.eq_false_iff.2 b1
        by_cases b2 : (Decidable.decide (v7 > 0)) = true
        · rw [if_pos b2] at h
          obtain ⟨s3, h⟩ := h
          obtain ⟨s4, s5, h⟩ := h
          by_cases b3 : (Decidable.decide (g85_0 (List.getD x0 (Int.toNat (v7 - 1)) (ByteArray.empty, ByteArray.empty, ByteArray.empty, ())) (List.getD x0 (Int.toNat v7) (ByteArray.empty, ByteArray.empty, ByteArray.empty, ())) ≥ 0)) = true
          · rw [if_pos b3] at h
            subst h
            exact AtV.fin Try.func37 tabOk ext37Ok mixed (p37_2 v7 x0) ⟨b0, s0, s1, s2, b1, b2, s3, s4, s5, trivial, b3, trivial⟩
          · rw [if_neg b3] at h
            replace b3 := Bool.eq_false_iff.2 b3
            obtain ⟨s6, h⟩ := h
            exact AtV.runN tabOk ext37Ok mixed (p37_3 v7 x0) ⟨b0, s0, s1, s2, b1, b2, s3, s4, s5, trivial, b3, s6, trivial⟩ (ih2 _ _ _ h w0 O q)
        · rw [if_neg b2] at h
          replace b2 := Bool.eq_false_iff.2 b2
          obtain ⟨s3, h⟩ := h
          exact AtV.runN tabOk ext37Ok mixed (p37_4 v7 x0) ⟨b0, s0, s1, s2, b1, b2, rfl, s3, trivial⟩ (ih2 _ _ _ h w0 O q)
    · rw [if_neg b0] at h
      replace b0 := Bool.eq_false_iff.2 b0
      subst h
      exact AtV.fin Try.func37 tabOk ext37Ok mixed (p37_5 v7 x0) ⟨b0, trivial⟩



/-- A block at its place. -/
def ok37 (x0 : List (ByteArray × ByteArray × ByteArray × Unit)) (i : Nat) (x : ByteArray × ByteArray × ByteArray × Unit) : Bool :=
  g84_0 x && (i == 0 || !decide (g85_0 (x0.getD (i - 1) (ByteArray.empty, ByteArray.empty, ByteArray.empty, ())) x ≥ 0))
def g37_0 (x0 : List (ByteArray × ByteArray × ByteArray × Unit)) : Bool := allI (ok37 x0) 0 x0 && decide (x0.length ≤ 32)
def P37 (x0 : List (ByteArray × ByteArray × ByteArray × Unit)) : Prop := True

theorem step37 (n i : Nat) (x0 : List (ByteArray × ByteArray × ByteArray × Unit)) (hm : x0.length ≤ maxLen) (hi : i < x0.length) (ds : List Dyn) :
    (if ok37 x0 i (x0.getD i (ByteArray.empty, ByteArray.empty, ByteArray.empty, ())) = true then R37_2 n ((i : Int) + 1) x0 ds else ds = [⟨.bool, false⟩]) → R37_2 (n + 1) (i : Int) x0 ds := by
  intro h
  have hu := inR_up hm hi
  rw [R37_2, if_pos (by simp; omega)]
  refine ⟨by omega, by omega, ?_⟩
  simp only [Int.toNat_natCast]
  unfold ok37 at h
  refine ⟨pre84 _, ?_⟩
  by_cases h1 : g84_0 (x0.getD i (ByteArray.empty, ByteArray.empty, ByteArray.empty, ())) = true
  case neg =>
    have h1 := Bool.eq_false_iff.2 h1
    rw [h1] at h
    rw [if_pos (by rw [h1]; rfl)]
    simpa using h
  case pos =>
    rw [h1] at h
    rw [if_neg (by rw [h1]; simp)]
    by_cases h0 : (i : Int) > 0
    · rw [if_pos (by simpa using h0)]
      have hi0 : (i == 0) = false := by simp; omega
      have e : ((i : Int) - 1).toNat = i - 1 := by omega
      refine ⟨by rw [i64_iff]; have : maxLen ≤ 9223372036854775807 := by decide
                 omega, by omega, by omega, ?_⟩
      rw [e]
      by_cases h2 : g85_0 (x0.getD (i - 1) (ByteArray.empty, ByteArray.empty, ByteArray.empty, ())) (x0.getD i (ByteArray.empty, ByteArray.empty, ByteArray.empty, ())) ≥ 0
      · rw [if_pos (by simpa using h2)]
        rw [hi0, decide_eq_true h2] at h
        simpa using h
      · rw [if_neg (by simpa using h2)]
        rw [hi0, decide_eq_false h2] at h
        exact ⟨hu, by simpa using h⟩
    · rw [if_neg (by simpa using h0)]
      have hi0 : (i == 0) = true := by simp; omega
      rw [hi0] at h
      exact ⟨hu, by simpa using h⟩

theorem top37 (x0 : List (ByteArray × ByteArray × ByteArray × Unit)) (hw : x0.length ≤ maxLen) : R37 (x0.length + 1 + 1) x0 [⟨.bool, g37_0 x0⟩] := by
  rw [R37]
  have key := loop_testI x0 (ByteArray.empty, ByteArray.empty, ByteArray.empty, ()) (ok37 x0) [(⟨.bool, false⟩ : Dyn)] [⟨.bool, decide (x0.length ≤ 32)⟩] (fun n i ds => R37_2 n i x0 ds) (fun n => ?_) (fun n i hi hok ds hr => ?_) (fun n i hi hok => ?_)
  · unfold g37_0
    cases h : allI (ok37 x0) 0 x0 with
    | true => rw [if_pos h] at key; simpa using key
    | false => rw [if_neg (by rw [h]; simp)] at key; simpa using key
  · rw [R37_2, if_neg (by simp)]
    have hc : decide ((x0.length : Int) ≤ 32) = decide (x0.length ≤ 32) := by
      congr 1; exact propext ⟨fun h => by omega, fun h => by omega⟩
    rw [hc]
  · exact step37 n i x0 hw hi ds (by rw [if_pos hok]; exact hr)
  · exact step37 n i x0 hw hi _ (by rw [if_neg (by rw [hok]; simp)])

def S37 : Am.Spec := { sig := sig37, pre := fun ⟨x0, _⟩ => P37 x0, res := fun ⟨x0, _⟩ => [⟨Ty.bool, g37_0 x0⟩] }
theorem con37 : Contract Try.prog 37 S37 := contract_of Try.func37 hb37 (Nat.le_of_ble_eq_true (by kernel_rfl)) (fun ⟨x0, _⟩ h hwf w0 O q =>
  (snd37 _).1 x0 _ (top37 x0 hwf.1.1) w0 O q)

end Go.Proofs.Ytjkeinpcphkfbaa

/- Function 96 (slices.Clone[[]impl.Block,impl.Block]): its contract, off what is known of the library. -/
set_option linter.unusedVariables false
set_option linter.unusedSimpArgs false
set_option maxRecDepth 100000
namespace Go.Proofs.Ytjkeinpcphkfbaa
open Go Go.Am Go.Proofs

set_option maxHeartbeats 2000000 in
theorem nil96 (w : World) : Calls Try.prog 96 #[.slice none 0 0] w fun e w' => e = .returned (.slice none 0 0) ∧ w' = w := by
  have mixed := mixed
  have q22 : ∀ (w : World) (a : Option Addr) (n c n' c' : Nat), (binOp .eql 49 (.slice a n c) (.slice none n' c')).run Try.prog w = .ok (.bool a.isNone) w := fun w a n c n' c' => Lib.run_eql_slice_nil w _ _ a n c n' c' Try.underlying49
  go_enter Try.func96, Try.ntmps96
  go_wp2
  go_ret
  exact ⟨rfl, rfl⟩

set_option maxHeartbeats 4000000 in
theorem some96 (w : World) (a : Addr) (n c : Nat) (news : List Value) (hl : news.length = n * (Ty.size (Ty.cons Ty.str (Ty.cons Ty.str (Ty.cons Ty.str Ty.unit))))) (hn : n ≤ 1048576) (hc : ∀ (j : Nat) (u : Value), news[j]? = some u → w.cell? (a.add j) = some u) (h1 : ∀ u ∈ news, u.oneCell' = true) :
    Calls Try.prog 96 #[.slice (some a) n c] w fun r w' => ∃ v', r = .returned v' ∧ w'.ownsRow w.heap.size 80 (Ty.size (Ty.cons Ty.str (Ty.cons Ty.str (Ty.cons Ty.str Ty.unit)))) v' n news ∧ Go.RowKit.Below w.heap.size w w' := by
  have mixed := mixed
  have q22 : ∀ (w : World) (a : Option Addr) (n c n' c' : Nat), (binOp .eql 49 (.slice a n c) (.slice none n' c')).run Try.prog w = .ok (.bool a.isNone) w := fun w a n c n' c' => Lib.run_eql_slice_nil w _ _ a n c n' c' Try.underlying49
  have hinfo : TIOk Try.prog 49 (tabGet tab 49) := tabOk 49
  obtain ⟨_, _, ⟨_, ⟨i0, hi0, hz1, z, hz0, hzs, _⟩⟩, hby⟩ := hinfo
  rw [hi0] at hby
  simp only [Option.map_some, Option.some.injEq] at hby
  have hzs' : z.cells.size = Ty.size (Ty.cons Ty.str (Ty.cons Ty.str (Ty.cons Ty.str Ty.unit))) := by rw [← Array.length_toList, hzs]; rfl
  have A : Aside (∀ (j : Nat) (u : Value), news[j]? = some u → w.cell? (a.add j) = some u) := hc
  clear hc
  go_enter Try.func96, Try.ntmps96
  go_wp2_with (at_builtin; refine wpList_append_own _ rfl _ _ 49 rfl w.heap.size 80 i0 z (Ty.size (Ty.cons Ty.str (Ty.cons Ty.str (Ty.cons Ty.str Ty.unit)))) i0.bytes Try.underlying49 hi0 hz0 hz1 rfl hzs' (by decide) _ _ _ rfl (World.ownsRow_made w #[] 0 (Nat.le_refl _) (Nat.zero_le _) (by simp)) a n c news rfl ?qc1 ?qc2 ?qc3 ?qc4 ?qc5 ?qc6 ?_)
  case qc1 => exact hl
  case qc2 => intro j u hj; exact Lib.cell?_alloc_some _ (A.out j u hj)
  case qc3 => exact h1
  case qc4 => unfold maxLen; omega
  case qc5 => rw [hby]; omega
  case qc6 => simp
  intro v' w1 hown hgrow hnil
  go_wp2
  go_ret
  exact ⟨v', rfl, by simpa using hown, ((Go.RowKit.Below.refl _ w).alloc (Nat.le_refl _) _).grown hgrow (by simp) (by intro k hk; simp [Value.ownBlock] at hk; omega)⟩

def sig96 : List AT := [AT.v (Ty.sl (Ty.cons Ty.str (Ty.cons Ty.str (Ty.cons Ty.str Ty.unit))))]
def g96_0 (x0 : List (ByteArray × ByteArray × ByteArray × Unit)) : List (ByteArray × ByteArray × ByteArray × Unit) := x0
def P96 (x0 : List (ByteArray × ByteArray × ByteArray × Unit)) : Prop := x0.length ≤ 1048576
def S96 : Am.Spec := { sig := sig96, pre := fun ⟨x0, _⟩ => P96 x0, res := fun ⟨x0, _⟩ => [⟨Ty.sl (Ty.cons Ty.str (Ty.cons Ty.str (Ty.cons Ty.str Ty.unit))), g96_0 x0⟩] }
theorem con96 : Contract Try.prog 96 S96 := clone_contract (t := (Ty.cons Ty.str (Ty.cons Ty.str (Ty.cons Ty.str Ty.unit)))) (e := 80) rfl nil96 some96

end Go.Proofs.Ytjkeinpcphkfbaa

/- Function 126 (slices.BinarySearchFunc[[]impl.Block,impl.Block,impl.Block]): its runs between cut points. Written by a program of this repo (gen). -/
set_option linter.unusedVariables false
set_option linter.unusedSimpArgs false
set_option maxRecDepth 100000
namespace Go.Proofs.Ytjkeinpcphkfbaa
open Go Go.Am Go.Proofs
def ext126c85 : Ext := [(85, S85)]
theorem call126c85_85 : Callable Try.prog 85 := ⟨Try.f85, Try.func85, by kernel_rfl, by kernel_rfl⟩
theorem ext126c85Ok : ExtOk Try.prog ext126c85 := ⟨⟨call126c85_85, con85⟩, trivial⟩
/-! Function 126c85. -/
noncomputable def b126c85 : Code := bodyOf Try.f126
theorem hb126c85 : Try.f126.body = some b126c85 := by kernel_rfl
def sig126c85 : List AT := [AT.v (Ty.sl (Ty.cons Ty.str (Ty.cons Ty.str (Ty.cons Ty.str Ty.unit)))), AT.v (Ty.cons Ty.str (Ty.cons Ty.str (Ty.cons Ty.str Ty.unit))), AT.fn 85 []]
def tys126c85 : List Ty := [Ty.int IntKind.i64, Ty.bool]
def E126c85_3 (v9 : Int) (v10 : Int) (x0 : List (ByteArray × ByteArray × ByteArray × Unit)) (x1 : ByteArray × ByteArray × ByteArray × Unit) : Env := [(0, PV.a (Atom.sl (Ty.cons Ty.str (Ty.cons Ty.str (Ty.cons Ty.str Ty.unit))) x0)), (2, PV.fn 85 []), (4, PV.a (Atom.optr 0 0 [])), (8, PV.a (Atom.val (Value.int IntKind.i64 (↑(List.length x0) : Int)))), (9, PV.a (Atom.val (Value.int IntKind.i64 v9))), (10, PV.a (Atom.val (Value.int IntKind.i64 v10)))]
def L126c85_3 (v9 : Int) (v10 : Int) (x0 : List (ByteArray × ByteArray × ByteArray × Unit)) (x1 : ByteArray × ByteArray × ByteArray × Unit) : Heap := [Option.some (Arr.mk (Ty.cons Ty.str (Ty.cons Ty.str (Ty.cons Ty.str Ty.unit))) [x1] Bool.true)]
mutual
def R126c85 : Nat → List (ByteArray × ByteArray × ByteArray × Unit) → ByteArray × ByteArray × ByteArray × Unit → List Dyn → Prop
  | 0, _, _, _ => False
  | n + 1, x0, x1, ds => (R126c85_3 n (0) ((↑(List.length x0) : Int)) (x0) (x1) ds)
def R126c85_3 : Nat → Int → Int → List (ByteArray × ByteArray × ByteArray × Unit) → ByteArray × ByteArray × ByteArray × Unit → List Dyn → Prop
  | 0, _, _, _, _, _ => False
  | n + 1, v9, v10, x0, x1, ds => (if (Decidable.decide (v9 < v10)) = true then ((InR IntKind.i64 (v9 + v10)) ∧ ((InR IntKind.u64 (v9 + v10)) ∧ ((InR IntKind.u64 (Int.fdiv (v9 + v10) 2)) ∧ ((InR IntKind.i64 (Int.fdiv (v9 + v10) 2)) ∧ ((0 ≤ Int.fdiv (v9 + v10) 2) ∧ (Int.fdiv (v9 + v10) 2 < (↑(List.length x0) : Int)) ∧ (if (Decidable.decide (g85_0 (List.getD x0 (Int.toNat (Int.fdiv (v9 + v10) 2)) (ByteArray.empty, ByteArray.empty, ByteArray.empty, ())) x1 < 0)) = true then ((InR IntKind.i64 (Int.fdiv (v9 + v10) 2 + 1)) ∧ (R126c85_3 n (Int.fdiv (v9 + v10) 2 + 1) (v10) (x0) (x1) ds)) else (R126c85_3 n (v9) (Int.fdiv (v9 + v10) 2) (x0) (x1) ds))))))) else (if (Decidable.decide (v9 < (↑(List.length x0) : Int))) = true then ((0 ≤ v9) ∧ (v9 < (↑(List.length x0) : Int)) ∧ (ds = [Dyn.mk (Ty.int IntKind.i64) v9, Dyn.mk Ty.bool (g85_0 (List.getD x0 (Int.toNat v9) (ByteArray.empty, ByteArray.empty, ByteArray.empty, ())) x1 == 0)])) else (ds = [Dyn.mk (Ty.int IntKind.i64) v9, Dyn.mk Ty.bool Bool.false])))
end
theorem p126c85_0 (x0 : List (ByteArray × ByteArray × ByteArray × Unit)) (x1 : ByteArray × ByteArray × ByteArray × Unit) : Am.runN tab ext126c85 false 49 [] 2000 [] [] [0, 2, 4, 8, 9, 10] [0] [] [.code b126c85] (entE 0 0 sig126c85 (x0, x1, (), ())) (entL sig126c85 (x0, x1, (), ())) = some (cutAt b126c85 3, E126c85_3 (0) ((↑(List.length x0) : Int)) (x0) (x1), L126c85_3 (0) ((↑(List.length x0) : Int)) (x0) (x1), []) := by kernel_rfl
theorem p126c85_1 (v9 : Int) (v10 : Int) (x0 : List (ByteArray × ByteArray × ByteArray × Unit)) (x1 : ByteArray × ByteArray × ByteArray × Unit) : Am.runN tab ext126c85 false 49 [] 2000 [] [] [0, 2, 4, 8, 9, 10] [0] [true, true] (cutAt b126c85 3) (E126c85_3 v9 v10 x0 x1) (L126c85_3 v9 v10 x0 x1) = some (cutAt b126c85 3, E126c85_3 (Int.fdiv (v9 + v10) 2 + 1) (v10) (x0) (x1), L126c85_3 (Int.fdiv (v9 + v10) 2 + 1) (v10) (x0) (x1), [Decidable.decide (v9 < v10) = Bool.true, InR IntKind.i64 (v9 + v10), InR IntKind.u64 (v9 + v10), (0 : Int) ≤ (1 : Int), InR IntKind.u64 (Int.fdiv (v9 + v10) 2), InR IntKind.i64 (Int.fdiv (v9 + v10) 2), 0 ≤ Int.fdiv (v9 + v10) 2, Int.fdiv (v9 + v10) 2 < (↑(List.length x0) : Int), True, Decidable.decide (g85_0 (List.getD x0 (Int.toNat (Int.fdiv (v9 + v10) 2)) (ByteArray.empty, ByteArray.empty, ByteArray.empty, ())) x1 < 0) = Bool.true, InR IntKind.i64 (Int.fdiv (v9 + v10) 2 + 1)]) := by kernel_rfl
theorem p126c85_2 (v9 : Int) (v10 : Int) (x0 : List (ByteArray × ByteArray × ByteArray × Unit)) (x1 : ByteArray × ByteArray × ByteArray × Unit) : Am.runN tab ext126c85 false 49 [] 2000 [] [] [0, 2, 4, 8, 9, 10] [0] [true, false] (cutAt b126c85 3) (E126c85_3 v9 v10 x0 x1) (L126c85_3 v9 v10 x0 x1) = some (cutAt b126c85 3, E126c85_3 (v9) (Int.fdiv (v9 + v10) 2) (x0) (x1), L126c85_3 (v9) (Int.fdiv (v9 + v10) 2) (x0) (x1), [Decidable.decide (v9 < v10) = Bool.true, InR IntKind.i64 (v9 + v10), InR IntKind.u64 (v9 + v10), (0 : Int) ≤ (1 : Int), InR IntKind.u64 (Int.fdiv (v9 + v10) 2), InR IntKind.i64 (Int.fdiv (v9 + v10) 2), 0 ≤ Int.fdiv (v9 + v10) 2, Int.fdiv (v9 + v10) 2 < (↑(List.length x0) : Int), True, Decidable.decide (g85_0 (List.getD x0 (Int.toNat (Int.fdiv (v9 + v10) 2)) (ByteArray.empty, ByteArray.empty, ByteArray.empty, ())) x1 < 0) = Bool.false]) := by kernel_rfl
theorem p126c85_3 (v9 : Int) (v10 : Int) (x0 : List (ByteArray × ByteArray × ByteArray × Unit)) (x1 : ByteArray × ByteArray × ByteArray × Unit) : runF tab ext126c85 false 49 [] 2000 [] tys126c85 Try.f126.results [false, true] (cutAt b126c85 3) (E126c85_3 v9 v10 x0 x1) (L126c85_3 v9 v10 x0 x1) = some ([Dyn.mk (Ty.int IntKind.i64) v9, Dyn.mk Ty.bool (g85_0 (List.getD x0 (Int.toNat v9) (ByteArray.empty, ByteArray.empty, ByteArray.empty, ())) x1 == 0)], [], [Decidable.decide (v9 < v10) = Bool.false, Decidable.decide (v9 < (↑(List.length x0) : Int)) = Bool.true, 0 ≤ v9, v9 < (↑(List.length x0) : Int), True]) := by kernel_rfl
theorem p126c85_4 (v9 : Int) (v10 : Int) (x0 : List (ByteArray × ByteArray × ByteArray × Unit)) (x1 : ByteArray × ByteArray × ByteArray × Unit) : runF tab ext126c85 false 49 [] 2000 [] tys126c85 Try.f126.results [false, false] (cutAt b126c85 3) (E126c85_3 v9 v10 x0 x1) (L126c85_3 v9 v10 x0 x1) = some ([Dyn.mk (Ty.int IntKind.i64) v9, Dyn.mk Ty.bool Bool.false], [], [Decidable.decide (v9 < v10) = Bool.false, Decidable.decide (v9 < (↑(List.length x0) : Int)) = Bool.false]) := by kernel_rfl
theorem snd126c85 : ∀ n, (∀ (x0 : List (ByteArray × ByteArray × ByteArray × Unit)) (x1 : ByteArray × ByteArray × ByteArray × Unit) ds, R126c85 n x0 x1 ds → ∀ w0 O q, AtV Try.prog 126 (PostR ds [] [] q w0 O) 49 w0 O q [] [.code b126c85] (entE 0 0 sig126c85 (x0, x1, (), ())) (entL sig126c85 (x0, x1, (), ()))) ∧ (∀ (v9 : Int) (v10 : Int) (x0 : List (ByteArray × ByteArray × ByteArray × Unit)) (x1 : ByteArray × ByteArray × ByteArray × Unit) ds, R126c85_3 n v9 v10 x0 x1 ds → ∀ w0 O q, AtV Try.prog 126 (PostR ds [] [] q w0 O) 49 w0 O q [] (cutAt b126c85 3) (E126c85_3 v9 v10 x0 x1) (L126c85_3 v9 v10 x0 x1)) := by
  intro n
  induction n with
  | zero => exact ⟨fun _ _ _ h => by simp only [R126c85] at h, fun _ _ _ _ _ h => by simp only [R126c85_3] at h⟩
  | succ n ih =>
  obtain ⟨ih, ih3⟩ := ih
  refine ⟨?_, ?_⟩
  · intro x0 x1 ds h w0 O q
    rw [R126c85] at h
    exact AtV.runN tabOk ext126c85Ok mixed (p126c85_0 x0 x1) trivial (ih3 _ _ _ _ _ h w0 O q)

  · intro v9 v10 x0 x1 ds h w0 O q
    rw [R126c85_3] at h
    by_cases b0 : (Decidable.decide (v9 < v10)) = true
    · rw [if_pos b0] at h
      obtain ⟨s0, h⟩ := h
      obtain ⟨s1, h⟩ := h
      obtain ⟨s2, h⟩ := h
      obtain ⟨s3, h⟩ := h
      obtain ⟨s4, s5, h⟩ := h
      by_cases b1 : (Decidable.decide (g85_0 (List.getD x0 (Int.toNat (Int.fdiv (v9 + v10) 2)) (ByteArray.empty, ByteArray.empty, ByteArray.empty, ())) x1 < 0)) = true
      · rw [if_pos b1] at h
        obtain ⟨s6, h⟩ := h
        exact AtV.runN tabOk ext126c85Ok mixed (p126c85_1 v9 v10 x0 x1) ⟨b0, s0, s1, (by decide), s2, s3, s4, s5, trivial, b1, s6, trivial⟩ (ih3 _ _ _ _ _ h w0 O q)
      · rw [if_neg b1] at h
        replace b1 := Bool.eq_false_iff.2 b1
        exact AtV.runN tabOk ext126c85Ok mixed (p126c85_2 v9 v10 x0 x1) ⟨b0, s0, s1, (by decide), s2, s3, s4, s5, trivial, b1, trivial⟩ (ih3 _ _ _ _ _ h w0 O q)
    · rw [if_neg b0] at h
      replace b0 := Bool.eq_false_iff.2 b0
      by_cases b1 : (Decidable.decide (v9 < (↑(List.length x0) : Int))) = true
      · rw [if_pos b1] at h
        obtain ⟨s0, s1, h⟩ := h
        subst h
        exact AtV.fin Try.func126 tabOk ext126c85Ok mixed (p126c85_3 v9 v10 x0 x1) ⟨b0, b1, s0, s1, trivial, trivial⟩
      · rw [if_neg b1] at h
        replace b1 := Bool.eq_false_iff.2 b1
        subst h
        exact AtV.fin Try.func126 tabOk ext126c85Ok mixed (p126c85_4 v9 v10 x0 x1) ⟨b0, b1, trivial⟩



def p126c85 (x0 : List (ByteArray × ByteArray × ByteArray × Unit)) (x1 : ByteArray × ByteArray × ByteArray × Unit) (h : Nat) : Bool := decide (g85_0 (x0.getD h (ByteArray.empty, ByteArray.empty, ByteArray.empty, ())) x1 < 0)
/-- Where the search comes to. -/
def k126c85 (x0 : List (ByteArray × ByteArray × ByteArray × Unit)) (x1 : ByteArray × ByteArray × ByteArray × Unit) : Nat := bsearch (p126c85 x0 x1) (x0.length + 1) 0 x0.length
def f126c85 (x0 : List (ByteArray × ByteArray × ByteArray × Unit)) (x1 : ByteArray × ByteArray × ByteArray × Unit) (k : Nat) : Bool := if k < x0.length then g85_0 (x0.getD k (ByteArray.empty, ByteArray.empty, ByteArray.empty, ())) x1 == 0 else false
def g126c85_0 (x0 : List (ByteArray × ByteArray × ByteArray × Unit)) (x1 : ByteArray × ByteArray × ByteArray × Unit) : Int := (k126c85 x0 x1 : Nat)
def g126c85_1 (x0 : List (ByteArray × ByteArray × ByteArray × Unit)) (x1 : ByteArray × ByteArray × ByteArray × Unit) : Bool := f126c85 x0 x1 (k126c85 x0 x1)
def P126c85 (x0 : List (ByteArray × ByteArray × ByteArray × Unit)) (x1 : ByteArray × ByteArray × ByteArray × Unit) : Prop := x0.length ≤ 4611686018427387903

theorem u64_iff (n : Int) : InR .u64 n ↔ 0 ≤ n ∧ n ≤ 18446744073709551615 := by
  have e1 : (IntKind.u64).min = 0 := by decide
  have e2 : (IntKind.u64).max = 18446744073709551615 := by decide
  simp only [InR, e1, e2]

theorem run126c85 (x0 : List (ByteArray × ByteArray × ByteArray × Unit)) (x1 : ByteArray × ByteArray × ByteArray × Unit) (hm : x0.length ≤ 4611686018427387903) : ∀ (k i j : Nat), j - i < k → i ≤ j → j ≤ x0.length →
    R126c85_3 k (i : Int) (j : Int) x0 x1 [⟨.int .i64, ((bsearch (p126c85 x0 x1) k i j : Nat) : Int)⟩, ⟨.bool, f126c85 x0 x1 (bsearch (p126c85 x0 x1) k i j)⟩] := by
  intro k
  induction k with
  | zero => intro i j h; omega
  | succ k ih =>
    intro i j h hij hj
    rw [R126c85_3]
    by_cases hlt : i < j
    · rw [if_pos (by simpa using hlt)]
      have e : Int.fdiv ((i : Int) + (j : Int)) 2 = (((i + j) / 2 : Nat) : Int) := by
        rw [Int.fdiv_eq_ediv_of_nonneg _ (by omega)]
        omega
      rw [e]
      simp only [Int.toNat_natCast, i64_iff, u64_iff]
      refine ⟨by omega, by omega, by omega, by omega, by omega, by omega, ?_⟩
      simp only [bsearch, if_pos hlt]
      by_cases hp : p126c85 x0 x1 ((i + j) / 2) = true
      · rw [if_pos hp, if_pos (by exact hp)]
        refine ⟨by omega, ?_⟩
        exact ih ((i + j) / 2 + 1) j (by omega) (by omega) hj
      · rw [if_neg hp, if_neg (by exact hp)]
        exact ih i ((i + j) / 2) (by omega) (by omega) (by omega)
    · rw [if_neg (by simpa using hlt)]
      simp only [bsearch, if_neg hlt, f126c85]
      by_cases hl : i < x0.length
      · rw [if_pos (by simpa using hl)]
        refine ⟨by omega, by omega, ?_⟩
        simp [hl]
      · rw [if_neg (by simpa using hl)]
        simp [hl]

def S126c85 : Am.Spec := { sig := sig126c85, pre := fun ⟨x0, x1, _⟩ => P126c85 x0 x1, res := fun ⟨x0, x1, _⟩ => [⟨Ty.int .i64, g126c85_0 x0 x1⟩, ⟨Ty.bool, g126c85_1 x0 x1⟩] }
theorem con126c85 : Contract Try.prog 126 S126c85 := contract_of Try.func126 hb126c85 (Nat.le_of_ble_eq_true (by kernel_rfl)) (fun ⟨x0, x1, _⟩ h hwf w0 O q =>
  (snd126c85 (x0.length + 1 + 1)).1 x0 x1 _ (by rw [R126c85]; exact run126c85 x0 x1 h (x0.length + 1) 0 x0.length (by omega) (by omega) (Nat.le_refl _)) w0 O q)

end Go.Proofs.Ytjkeinpcphkfbaa

/- Function 94 (impl.blockAt): its runs between cut points. Written by a program of this repo (gen). -/
set_option linter.unusedVariables false
set_option linter.unusedSimpArgs false
set_option maxRecDepth 100000
namespace Go.Proofs.Ytjkeinpcphkfbaa
open Go Go.Am Go.Proofs
def ext94 : Ext := [(126, S126c85)]
theorem call94_126 : Callable Try.prog 126 := ⟨Try.f126, Try.func126, by kernel_rfl, by kernel_rfl⟩
theorem ext94Ok : ExtOk Try.prog ext94 := ⟨⟨call94_126, con126c85⟩, trivial⟩
/-! Function 94. -/
noncomputable def b94 : Code := bodyOf Try.f94
theorem hb94 : Try.f94.body = some b94 := by kernel_rfl
def sig94 : List AT := [AT.v (Ty.sl (Ty.cons Ty.str (Ty.cons Ty.str (Ty.cons Ty.str Ty.unit)))), AT.v (Ty.cons Ty.str (Ty.cons Ty.str (Ty.cons Ty.str Ty.unit)))]
def tys94 : List Ty := [Ty.int IntKind.i64, Ty.bool]
def P94 (x0 : List (ByteArray × ByteArray × ByteArray × Unit)) (x1 : ByteArray × ByteArray × ByteArray × Unit) : Prop := ((P126c85 x0 x1) ∧ True)
def g94_0 (x0 : List (ByteArray × ByteArray × ByteArray × Unit)) (x1 : ByteArray × ByteArray × ByteArray × Unit) : Int := g126c85_0 x0 x1
def g94_1 (x0 : List (ByteArray × ByteArray × ByteArray × Unit)) (x1 : ByteArray × ByteArray × ByteArray × Unit) : Bool := g126c85_1 x0 x1
theorem p94_0 (x0 : List (ByteArray × ByteArray × ByteArray × Unit)) (x1 : ByteArray × ByteArray × ByteArray × Unit) : runF tab ext94 false 11 [] 2000 [] tys94 Try.f94.results [] [.code b94] (entE 0 0 sig94 (x0, x1, ())) (entL sig94 (x0, x1, ())) = some ([Dyn.mk (Ty.int IntKind.i64) (g126c85_0 x0 x1), Dyn.mk Ty.bool (g126c85_1 x0 x1)], [], [P126c85 x0 x1]) := by kernel_rfl
theorem at94 (x0 : List (ByteArray × ByteArray × ByteArray × Unit)) (x1 : ByteArray × ByteArray × ByteArray × Unit) (h : P94 x0 x1) (w0 : World) (O : List Nat) (q : Nat → Value) : AtV Try.prog 94 (PostR [⟨Ty.int IntKind.i64, g94_0 x0 x1⟩, ⟨Ty.bool, g94_1 x0 x1⟩] [] [] q w0 O) 11 w0 O q [] [.code b94] (entE 0 0 sig94 (x0, x1, ())) (entL sig94 (x0, x1, ())) := by
  unfold P94 at h
  unfold g94_0 g94_1
  obtain ⟨s0, h⟩ := h
  exact AtV.fin Try.func94 tabOk ext94Ok mixed (p94_0 x0 x1) ⟨s0, trivial⟩

def S94 : Am.Spec := { sig := sig94, pre := fun ⟨x0, x1, _⟩ => P94 x0 x1, res := fun ⟨x0, x1, _⟩ => [⟨Ty.int IntKind.i64, g94_0 x0 x1⟩, ⟨Ty.bool, g94_1 x0 x1⟩] }
theorem con94 : Contract Try.prog 94 S94 := contract_of Try.func94 hb94 (Nat.le_of_ble_eq_true (by kernel_rfl)) (fun ⟨x0, x1, _⟩ h _ w0 O q => at94 x0 x1 h w0 O q)


end Go.Proofs.Ytjkeinpcphkfbaa

/- Function 132 (slices.Insert[[]impl.Block,impl.Block]): its contract, off what is known of the library. -/
set_option linter.unusedVariables false
set_option linter.unusedSimpArgs false
set_option maxRecDepth 100000
namespace Go.Proofs.Ytjkeinpcphkfbaa
open Go Go.Am Go.Proofs

open Go.RowKit in
/-- 'copy(d, s)' for the walk, where its run is known. -/
theorem wpcp132 {P : Program} (w : World) {o : Oper} {a : Act} {K : Act → World → Prop} {Q : Exit → Act → World → Prop} (d s : Operand) (t t' : TypeId)
    (ho : o.op = .call { callee := .builtin .copy, args := #[d, s], argTypes := #[t, t'] }) (v u : Value) (hd : a.eval d = v) (hs : a.eval s = u) {v' : Value} {w' : World}
    (hr : (Builtin.copy_ #[t, t'] o.type #[v, u]).run P w = .ok v' w') (h : K (a.put o.dst v') w') : o.wp P a w K Q := by
  unfold Oper.wp execOp
  simp only [ho, resolve, invoke, builtin, Sem.run_bind, Sem.run_pure, Result.andThen_ok, List.map_toArray, List.map_cons, List.map_nil, hd, hs, hr]
  exact h

theorem lcp132 {P : Program} (w : World) {ops : Array Oper} {rest : List Oper} {o : Oper} {a : Act} {Q : Exit → Act → World → Prop} (hgd : o.guard = none) (d s : Operand) (t t' : TypeId)
    (ho : o.op = .call { callee := .builtin .copy, args := #[d, s], argTypes := #[t, t'] }) (v u : Value) (hd : a.eval d = v) (hs : a.eval s = u) {v' : Value} {w' : World}
    (hr : (Builtin.copy_ #[t, t'] o.type #[v, u]).run P w = .ok v' w') (h : wpList P ops Q rest (a.put o.dst v') w') : wpList P ops Q (o :: rest) a w :=
  wpList_plain hgd fun _ hK => wpcp132 w d s t t' ho v u hd hs hr (hK _ _ h)

theorem scp132 {P : Program} {ops : Array Oper} {o : Oper} {a : Act} {w : World} {K : Act → World → Prop} {Q : Exit → Act → World → Prop} {E : Prop}
    (hg : o.guard = none) (d x : Operand) (dT sT : TypeId) (hop : o.op = Op.call { callee := Callee.builtin Builtin.copy, args := #[d, x], argTypes := #[dT, sT] })
    (v u : Value) (hd : a.eval d = v) (hx : a.eval x = u) {v' : Value} {w' : World} (hr : (Builtin.copy_ #[dT, sT] o.type #[v, u]).run P w = .ok v' w') (hK : K (a.put o.dst v') w') :
    if Region.wanted o (yielded ops a.tmps) = true then Oper.wp P o a w K Q else E := by
  have hw : Region.wanted o (yielded ops a.tmps) = true := by simp [Region.wanted, hg]
  rw [if_pos hw]
  unfold Oper.wp
  simp [execOp, hop, resolve, invoke, builtin, hd, hx, hr, Result.andThen]
  exact hK

theorem frozen_end132 {w : World} {ys : List (ByteArray × ByteArray × ByteArray × Unit)} {b off cap : Nat} {cur : Array Value} {ty : TypeId} {fz : Nat × Nat} (h : OwnAt w (Ty.cons Ty.str (Ty.cons Ty.str (Ty.cons Ty.str Ty.unit))) ys b off cap cur ty fz) : w.frozen? ⟨b, cur.size, none⟩ = false := by
  have h2 := (h.free.2.resolve_left (by decide)) cur.size (by omega)
  simp only [World.frozen?, h.blk]
  rw [Bool.eq_false_iff]
  intro hh
  simp only [Bool.and_eq_true, decide_eq_true_eq] at hh
  exact h2 hh

theorem info132 : ∃ (i0 : TypeInfo) (z : Value), Try.prog.info? 80 = some i0 ∧ i0.size = 3 ∧ i0.zero = some z ∧ z.cells = (dcells (Ty.cons Ty.str (Ty.cons Ty.str (Ty.cons Ty.str Ty.unit)))).toArray ∧ (Try.prog.info? 80).map (·.size) = some 3 ∧ ∃ by', i0.bytes = by' ∧ by' ≤ 256 ∧ i0.bytes * 1048577 ≤ 140737488355328 := by
  have hinfo : TIOk Try.prog 49 (tabGet tab 49) := tabOk 49
  obtain ⟨_, _, ⟨_, ⟨i0, hi0, hz1, z, hz0, hzs, hzv⟩⟩, hby⟩ := hinfo
  rw [hi0] at hby
  simp only [Option.map_some, Option.some.injEq] at hby
  refine ⟨i0, z, hi0, hz1, hz0, Array.toList_inj.1 (by rw [hzs]), by rw [hi0]; exact congrArg some hz1, _, rfl, ?_, ?_⟩
  · rw [hby]; decide
  · rw [hby]; decide

open Go.RowKit in
set_option maxHeartbeats 8000000 in
theorem end132 (w : World) (xs ys : List (ByteArray × ByteArray × ByteArray × Unit)) (b off cap : Nat) (cur : Array Value) (ty : TypeId) (fz : Nat × Nat) (vb voff vcap : Nat) (vcur : Array Value) (vty : TypeId) (vfz : Nat × Nat) (hA : OwnAt w (Ty.cons Ty.str (Ty.cons Ty.str (Ty.cons Ty.str Ty.unit))) xs b off cap cur ty fz) (hB : OwnAt w (Ty.cons Ty.str (Ty.cons Ty.str (Ty.cons Ty.str Ty.unit))) ys vb voff vcap vcur vty vfz) (h1 : ys.length = 1) (hvb : vb ≠ b) (hroom : xs.length + 1 ≤ cap) :
      Calls Try.prog 132 #[.slice (some ⟨b, off, none⟩) xs.length cap, .int .i64 xs.length, .slice (some ⟨vb, voff, none⟩) 1 vcap] w fun r w' => r = .returned (.slice (some ⟨b, off, none⟩) (xs.length + 1) cap) ∧
        ∃ q, w' = (w.drewN q).setCells b (off + xs.length * Ty.size (Ty.cons Ty.str (Ty.cons Ty.str (Ty.cons Ty.str Ty.unit)))) (fcs (Ty.cons Ty.str (Ty.cons Ty.str (Ty.cons Ty.str Ty.unit))) ys) := by
  have mixed := mixed
  obtain ⟨i0, z, hi0, hz1, hz0, hzc, hzm, _⟩ := info132
  have hlen := hA.len
  have hcapm := hA.capm
  have hvl : (fcs (Ty.cons Ty.str (Ty.cons Ty.str (Ty.cons Ty.str Ty.unit))) ys).length = 1 * 3 := by
    have := fcs_length (t := (Ty.cons Ty.str (Ty.cons Ty.str (Ty.cons Ty.str Ty.unit)))) rfl (xs := ys) hB.wf
    rw [this, h1]; rfl
  obtain ⟨vs, hvs⟩ : ∃ vs, vs = fcs (Ty.cons Ty.str (Ty.cons Ty.str (Ty.cons Ty.str Ty.unit))) ys := ⟨_, rfl⟩
  have hvc : ∀ (j : Nat) (u : Value), vs[j]? = some u → w.cell? ⟨vb, voff + j, none⟩ = some u := fun j u hj => hB.cell j u (by rw [← hvs]; exact hj)
  rw [← hvs] at hvl ⊢
  have hle : (xs.length + 1) * 3 ≤ cap * 3 := Nat.mul_le_mul_right _ hroom
  have s2 : ∀ u ∈ vs, u.oneCell' = true := by rw [hvs]; exact fcells_ones rfl _
  have hsrc : Src Try.prog i0.size 49 (.slice (some ⟨vb, voff, none⟩) 1 vcap) 1 vs w := by
    rw [hz1]
    exact Src.ofSlice w Try.underlying49 ⟨vb, voff, none⟩ 1 vcap vs hvl (fun j u hj => by rw [Addr.add_lit]; exact hvc j u hj) s2
  have A0 : ∀ k, k < cap * 3 → (w.cell? ⟨b, off + k, none⟩).isSome = true ∧ w.frozen? ⟨b, off + k, none⟩ = false := fun k hk => ⟨hA.some' k hk, hA.unfrozen k hk⟩
  have r1 : ∀ j, j < vs.length → (w.cell? ⟨b, off + xs.length * i0.size + j, none⟩).isSome = true := fun j hj => by rw [hz1, Nat.add_assoc]; exact (A0 _ (by omega)).1
  have r2 : ∀ j, j < vs.length → w.frozen? ⟨b, off + xs.length * i0.size + j, none⟩ = false := fun j hj => by rw [hz1, Nat.add_assoc]; exact (A0 _ (by omega)).2
  have R1 : Aside (∀ j, j < vs.length → (w.cell? ⟨b, off + xs.length * i0.size + j, none⟩).isSome = true) := r1
  have R2 : Aside (∀ j, j < vs.length → w.frozen? ⟨b, off + xs.length * i0.size + j, none⟩ = false) := r2
  have N : Aside (i0.size = 3) := hz1
  clear r1 r2 A0 s2 hvc hvs hzc hz0 hzm hA hB
  go_enter Try.func132, Try.ntmps132
  go_wp2_with (at_builtin; refine wpList_append_room_src _ rfl _ _ 49 49 rfl 80 i0 Try.underlying49 hi0 b off xs.length cap rfl _ rfl 1 vs hsrc hroom R1.out R2.out ?_)
  go_ret
  exact ⟨rfl, 0, rfl⟩

open Go.RowKit in
set_option maxHeartbeats 8000000 in
theorem last132 (w : World) (xs ys : List (ByteArray × ByteArray × ByteArray × Unit)) (ad : Option Addr) (cap : Nat) (vb voff vcap : Nat) (vcur : Array Value) (vty : TypeId) (vfz : Nat × Nat) (hw : ∀ x ∈ xs, Wf (Ty.cons Ty.str (Ty.cons Ty.str (Ty.cons Ty.str Ty.unit))) x) (hlen : xs.length ≤ cap) (hnil : ad = none → xs = []) (hcs : ∀ a, ad = some a → ∀ (j : Nat) (u : Value), (fcs (Ty.cons Ty.str (Ty.cons Ty.str (Ty.cons Ty.str Ty.unit))) xs)[j]? = some u → w.cell? (a.add j) = some u) (hB : OwnAt w (Ty.cons Ty.str (Ty.cons Ty.str (Ty.cons Ty.str Ty.unit))) ys vb voff vcap vcur vty vfz) (h1 : ys.length = 1) (hroom : cap < xs.length + 1) (hmax : xs.length ≤ 1048576) :
      Calls Try.prog 132 #[.slice ad xs.length cap, .int .i64 xs.length, .slice (some ⟨vb, voff, none⟩) 1 vcap] w fun r w' => ∃ v', r = .returned v' ∧ w'.ownsRow w.heap.size 80 (Ty.size (Ty.cons Ty.str (Ty.cons Ty.str (Ty.cons Ty.str Ty.unit)))) v' (xs.length + 1) (fcs (Ty.cons Ty.str (Ty.cons Ty.str (Ty.cons Ty.str Ty.unit))) (xs ++ ys)) ∧ Below w.heap.size w w' := by
  have mixed := mixed
  obtain ⟨i0, z, hi0, hz1, hz0, hzc, hzm, by', hb1, hb2, hb3⟩ := info132
  have hvl : (fcs (Ty.cons Ty.str (Ty.cons Ty.str (Ty.cons Ty.str Ty.unit))) ys).length = 1 * 3 := by
    have := fcs_length (t := (Ty.cons Ty.str (Ty.cons Ty.str (Ty.cons Ty.str Ty.unit)))) rfl (xs := ys) hB.wf
    rw [this, h1]; rfl
  have hcl : (fcs (Ty.cons Ty.str (Ty.cons Ty.str (Ty.cons Ty.str Ty.unit))) xs).length = xs.length * 3 := fcs_length (t := (Ty.cons Ty.str (Ty.cons Ty.str (Ty.cons Ty.str Ty.unit)))) rfl hw
  obtain ⟨vs, hvs⟩ : ∃ vs, vs = fcs (Ty.cons Ty.str (Ty.cons Ty.str (Ty.cons Ty.str Ty.unit))) ys := ⟨_, rfl⟩
  obtain ⟨cs, hcss⟩ : ∃ cs, cs = fcs (Ty.cons Ty.str (Ty.cons Ty.str (Ty.cons Ty.str Ty.unit))) xs := ⟨_, rfl⟩
  have hvc : ∀ (j : Nat) (u : Value), vs[j]? = some u → w.cell? ⟨vb, voff + j, none⟩ = some u := fun j u hj => hB.cell j u (by rw [← hvs]; exact hj)
  rw [fcs_append, ← hvs, ← hcss]
  rw [← hvs] at hvl
  rw [← hcss] at hcl hcs
  have s2 : ∀ u ∈ vs, u.oneCell' = true := by rw [hvs]; exact fcells_ones rfl _
  have hsrc : Src Try.prog i0.size 49 (.slice (some ⟨vb, voff, none⟩) 1 vcap) 1 vs w := by
    rw [hz1]
    exact Src.ofSlice w Try.underlying49 ⟨vb, voff, none⟩ 1 vcap vs hvl (fun j u hj => by rw [Addr.add_lit]; exact hvc j u hj) s2
  have hold : (Builtin.firstCells i0.size xs.length (.slice ad xs.length cap)).run Try.prog w.drew = .ok cs.toArray w.drew := by
    rw [hz1]
    cases ad with
    | none =>
      have h0 := hnil rfl
      subst h0
      rw [List.length_eq_zero_iff.1 (show cs.length = 0 by rw [hcl]; simp)]
      exact run_firstCells_none w.drew 3 0 0 cap
    | some a => exact run_firstCells_some w.drew 3 xs.length a xs.length cap cs hcl (fun j v hj => hcs a rfl j v hj)
  have hbig : (xs.length + 1) * i0.bytes ≤ 140737488355328 := by
    have : (xs.length + 1) * i0.bytes ≤ 1048577 * i0.bytes := Nat.mul_le_mul_right _ (by omega)
    rw [Nat.mul_comm 1048577] at this
    omega
  have hrun : ∀ ty, (Builtin.append_ #[49, 49] ty #[.slice ad xs.length cap, .slice (some ⟨vb, voff, none⟩) 1 vcap]).run Try.prog w = _ := fun ty =>
    run_append_grow_src w 49 49 ty 80 i0 z Try.underlying49 hi0 hz0 ad xs.length cap cs hold _ 1 vs hsrc hroom (by omega) (growslice_fits hroom hbig)
  have hge := grownCap_ge w (xs.length + 1) cap 80
  have hgm := grownCap_le_maxLen w (xs.length + 1) cap 80 (by unfold maxLen; omega)
  have fin : ∀ G, xs.length + 1 ≤ G → G ≤ maxLen → (w.drew.alloc (.cells ((cs ++ vs).toArray ++ Builtin.zeroCells z.cells (G - (xs.length + 1))) 80)).ownsRow w.heap.size 80 (Ty.size (Ty.cons Ty.str (Ty.cons Ty.str (Ty.cons Ty.str Ty.unit)))) (.slice (some ⟨w.heap.size, 0, none⟩) (xs.length + 1) G) (xs.length + 1) (cs ++ vs) ∧ Below w.heap.size w (w.drew.alloc (.cells ((cs ++ vs).toArray ++ Builtin.zeroCells z.cells (G - (xs.length + 1))) 80)) := fun G g1 g2 => by
    have el : (cs ++ vs).length = (xs.length + 1) * 3 := by rw [List.length_append, hcl, hvl, Nat.add_mul]
    refine ⟨⟨el, .inr ⟨w.heap.size, G, _, rfl, Nat.le_refl _, heap_alloc_new w.drew _, g1, g2, ?_, ?_⟩⟩, ((Below.refl w.heap.size w).drew).alloc (Nat.le_refl _) _⟩
    · have hz : (Builtin.zeroCells z.cells (G - (xs.length + 1))).size = (G - (xs.length + 1)) * 3 := by
        rw [← Array.length_toList, hzc, zeroCells_k]; simp [dcells]
      rw [Array.size_append, List.size_toArray, el, hz]
      show _ = G * 3
      rw [← Nat.add_mul]; congr 1; omega
    · rw [Array.toList_append]
      have : ((cs ++ vs).toArray.toList ++ (Builtin.zeroCells z.cells (G - (xs.length + 1))).toList).take ((cs ++ vs).length) = cs ++ vs := List.take_left
      rw [el] at this
      exact this
  obtain ⟨G, hG⟩ : ∃ G, G = grownCap w (xs.length + 1) cap 80 := ⟨_, rfl⟩
  rw [← hG] at hrun hge hgm
  have fin := fin G hge hgm
  have F : Aside (_ ∧ _) := fin
  obtain ⟨ROW, hROW⟩ : ∃ ROW, ROW = (cs ++ vs).toArray ++ Builtin.zeroCells z.cells (G - (xs.length + 1)) := ⟨_, rfl⟩
  rw [← hROW] at hrun F
  clear fin hold hROW hG hcs hsrc hvc hvs hcss s2 hz0 hzc hzm hB
  go_enter Try.func132, Try.ntmps132
  cases ad with
  | none =>
    have h0 := hnil rfl
    subst h0
    go_wp2_with (at_builtin; refine Lib.wpList_append_run _ rfl _ _ _ _ rfl _ _ rfl rfl _ _ (hrun _) ?_)
    go_ret
    exact ⟨_, rfl, F.out.1, F.out.2⟩
  | some a =>
    obtain ⟨ab, ao, asp⟩ := a
    go_wp2_with (at_builtin; refine Lib.wpList_append_run _ rfl _ _ _ _ rfl _ _ rfl rfl _ _ (hrun _) ?_)
    all_goals (go_ret; exact ⟨_, rfl, F.out.1, F.out.2⟩)

open Go.RowKit in
set_option maxHeartbeats 8000000 in
theorem shift132 (w : World) (xs ys : List (ByteArray × ByteArray × ByteArray × Unit)) (b off cap : Nat) (cur : Array Value) (ty : TypeId) (fz : Nat × Nat) (vb voff vcap : Nat) (vcur : Array Value) (vty : TypeId) (vfz : Nat × Nat) (i : Nat) (hA : OwnAt w (Ty.cons Ty.str (Ty.cons Ty.str (Ty.cons Ty.str Ty.unit))) xs b off cap cur ty fz) (hB : OwnAt w (Ty.cons Ty.str (Ty.cons Ty.str (Ty.cons Ty.str Ty.unit))) ys vb voff vcap vcur vty vfz) (h1 : ys.length = 1) (hvb : vb ≠ b) (hi : i < xs.length) (hroom : xs.length + 1 ≤ cap) :
      Calls Try.prog 132 #[.slice (some ⟨b, off, none⟩) xs.length cap, .int .i64 i, .slice (some ⟨vb, voff, none⟩) 1 vcap] w fun r w' => r = .returned (.slice (some ⟨b, off, none⟩) (xs.length + 1) cap) ∧
        ∃ q, w' = ((w.drewN q).setCells b (off + (i + 1) * Ty.size (Ty.cons Ty.str (Ty.cons Ty.str (Ty.cons Ty.str Ty.unit)))) (fcs (Ty.cons Ty.str (Ty.cons Ty.str (Ty.cons Ty.str Ty.unit))) (xs.drop i))).setCells b (off + i * Ty.size (Ty.cons Ty.str (Ty.cons Ty.str (Ty.cons Ty.str Ty.unit)))) (fcs (Ty.cons Ty.str (Ty.cons Ty.str (Ty.cons Ty.str Ty.unit))) ys) := by
  have mixed := mixed
  obtain ⟨i0, z, hi0, hz1, hz0, hzc, hzm, _⟩ := info132
  have hlen := hA.len
  have hcapm := hA.capm
  have hvl : (fcs (Ty.cons Ty.str (Ty.cons Ty.str (Ty.cons Ty.str Ty.unit))) ys).length = 1 * 3 := by
    have := fcs_length (t := (Ty.cons Ty.str (Ty.cons Ty.str (Ty.cons Ty.str Ty.unit)))) rfl (xs := ys) hB.wf
    rw [this, h1]; rfl
  have hdl : (fcs (Ty.cons Ty.str (Ty.cons Ty.str (Ty.cons Ty.str Ty.unit))) (xs.drop i)).length = (xs.length - i) * 3 := by
    have := fcs_length (t := (Ty.cons Ty.str (Ty.cons Ty.str (Ty.cons Ty.str Ty.unit)))) rfl (xs := xs.drop i) (fun x hx => hA.wf x (List.mem_of_mem_drop hx))
    rw [this, List.length_drop]; rfl
  have hdc : ∀ (k : Nat) (u : Value), (fcs (Ty.cons Ty.str (Ty.cons Ty.str (Ty.cons Ty.str Ty.unit))) (xs.drop i))[k]? = some u → w.cell? ⟨b, off + i * 3 + k, none⟩ = some u := fun k u hk => by
    have := hA.cell _ _ (fcs_drop rfl hA.wf i (by omega) k u hk)
    rwa [Nat.add_assoc]
  obtain ⟨vs, hvs⟩ : ∃ vs, vs = fcs (Ty.cons Ty.str (Ty.cons Ty.str (Ty.cons Ty.str Ty.unit))) ys := ⟨_, rfl⟩
  obtain ⟨ds, hds⟩ : ∃ ds, ds = fcs (Ty.cons Ty.str (Ty.cons Ty.str (Ty.cons Ty.str Ty.unit))) (xs.drop i) := ⟨_, rfl⟩
  have hvc : ∀ (j : Nat) (u : Value), vs[j]? = some u → w.cell? ⟨vb, voff + j, none⟩ = some u := fun j u hj => hB.cell j u (by rw [← hvs]; exact hj)
  have s1 : ∀ u ∈ ds, u.oneCell' = true := by rw [hds]; exact fcells_ones rfl _
  have s2 : ∀ u ∈ vs, u.oneCell' = true := by rw [hvs]; exact fcells_ones rfl _
  rw [← hvs] at hvl ⊢
  rw [← hds] at hdl hdc ⊢
  have hle : (xs.length + 1) * 3 ≤ cap * 3 := Nat.mul_le_mul_right _ hroom
  have A0 : ∀ k, k < cap * 3 → (w.cell? ⟨b, off + k, none⟩).isSome = true ∧ w.frozen? ⟨b, off + k, none⟩ = false := fun k hk => ⟨hA.some' k hk, hA.unfrozen k hk⟩
  have hsb : w.shape? b = some (ty, cur.size) := by simp only [World.shape?, hA.blk]
  have hsa : w.shape? vb = some (vty, vcur.size) := by simp only [World.shape?, hB.blk]
  have hkB : cur.size ≠ 0 := by have := hA.fit; simp only [show Ty.size (Ty.cons Ty.str (Ty.cons Ty.str (Ty.cons Ty.str Ty.unit))) = 3 from rfl] at this; omega
  have hfa : w.frozen? ⟨vb, voff, none⟩ = false := by have := hB.unfrozen 0 (by have := hB.len; simp only [show Ty.size (Ty.cons Ty.str (Ty.cons Ty.str (Ty.cons Ty.str Ty.unit))) = 3 from rfl]; omega); exact this
  have hfe : w.frozen? ⟨vb, vcur.size, none⟩ = false := frozen_end132 hB
  have hov : ∀ lb cb, (callFunc 155 #[.slice (some ⟨vb, voff, none⟩) 1 vcap, .slice (some ⟨b, off + (i + 1) * 3, none⟩) lb cb]).run Try.prog w = .ok (.value (.bool false)) w := fun lb cb => by
    rw [run_callFunc_extern Try.func155 (by kernel_rfl) (by kernel_rfl) (by kernel_rfl) (e := Extern.SlicesOverlaps.overlaps #[49, 49] #[4]) (by kernel_rfl),
      Lib.run_overlaps_apart w 49 4 80 Try.underlying49 3 (fun w => by simp [Go.sizeOf, typeInfo, hi0, hz1]) ⟨vb, voff, none⟩ ⟨b, off + (i + 1) * 3, none⟩ 1 vcap lb cb hvb vty ty vcur.size cur.size hsa hsb hkB hfa hfe]
    rfl
  have e1 : (i + 1) * 3 + (xs.length - i) * 3 = xs.length * 3 + 3 := by rw [← Nat.add_mul, ← Nat.succ_mul]; congr 1; omega
  have e2 : (i + 1) * 3 = i * 3 + 3 := Nat.succ_mul _ _
  have hcp1 : ∀ ty dc sc, (Builtin.copy_ #[49, 49] ty #[.slice (some ⟨b, off + (i + 1) * 3, none⟩) (xs.length - i) dc, .slice (some ⟨b, off + i * 3, none⟩) (xs.length + 1 - i) sc]).run Try.prog w.drew = .ok (goInt (Nat.min (xs.length + 1 - i) (xs.length - i))) (w.drew.setCells b (off + (i + 1) * 3) ds) := fun ty dc sc =>
    run_copy_k w.drew _ _ ty 80 3 b (off + (i + 1) * 3) (xs.length - i) dc ⟨b, off + i * 3, none⟩ (xs.length + 1 - i) sc ds Try.underlying49 hzm (by rw [hdl]; congr 1; simp only [Nat.min_def]; split <;> omega)
      (fun j v hj => by rw [Addr.add_lit]; exact hdc j v hj)
      (fun j hj => by rw [Nat.add_assoc]; exact (A0 _ (by omega)).1) (fun j hj => by rw [Nat.add_assoc]; exact (A0 _ (by omega)).2) s1
  obtain ⟨W1, hW1⟩ : ∃ W1, W1 = w.drew.setCells b (off + (i + 1) * 3) ds := ⟨_, rfl⟩
  have hcp2 : ∀ (W : World), (∀ x, W.cell? x = W1.cell? x) → (∀ x, W.frozen? x = W1.frozen? x) → ∀ ty dc, (Builtin.copy_ #[49, 49] ty #[.slice (some ⟨b, off + i * 3, none⟩) (xs.length + 1 - i) dc, .slice (some ⟨vb, voff, none⟩) 1 vcap]).run Try.prog W = .ok (goInt (Nat.min 1 (xs.length + 1 - i))) (W.setCells b (off + i * 3) vs) := fun W hWc hWf ty dc =>
    run_copy_k W _ _ ty 80 3 b (off + i * 3) (xs.length + 1 - i) dc ⟨vb, voff, none⟩ 1 vcap vs Try.underlying49 hzm (by rw [hvl]; congr 1; simp only [Nat.min_def]; split <;> omega)
      (fun j v hj => by
        rw [Addr.add_lit, hWc, hW1, World.cell?_setCells_out b _ _ _ _ (fun h _ => absurd h hvb)]
        exact hvc j v hj)
      (fun j hj => by rw [hWc, hW1]; exact isSome_put _ _ _ _ _ (by rw [Nat.add_assoc]; exact (A0 _ (by omega)).1)) (fun j hj => by rw [hWf, hW1, World.frozen?_setCells, Nat.add_assoc]; exact (A0 _ (by omega)).2) s2
  have N : Aside (W1 = w.drew.setCells b (off + (i + 1) * 3) ds) := hW1
  rw [← hW1] at hcp1
  have hz2 : ¬ ((i : Int) = (xs.length : Int)) := by omega
  have hw1 : IntKind.i64.wrap ((i : Int) + 1) = (i : Int) + 1 := by unfold maxLen at hcapm; rw [IntKind.wrap_i64]; omega
  have hw2 : IntKind.i64.wrap ((xs.length : Int) + 1) = (xs.length : Int) + 1 := by unfold maxLen at hcapm; rw [IntKind.wrap_i64]; omega
  have hb1 : (0 : Int) ≤ (i : Int) + 1 := by omega
  have hin : i ≤ xs.length := by omega
  have htn : ((i : Int) + 1).toNat = i + 1 := by omega
  have htn2 : ((xs.length : Int) + 1).toNat = xs.length + 1 := by omega
  have hb2 : ¬ (cap = i + 1) := by omega
  have hb3 : (i : Int) ≤ (xs.length : Int) + 1 := by omega
  have hb4 : ¬ (cap = i) := by omega
  have hb5 : ¬ ((cap : Int) < (xs.length : Int) + 1) := by omega
  clear hW1 s1 s2 hvc hvs hds hdc hdl hvl A0 hsb hsa hkB hfa hfe hzc hz0 hA hB e1 e2
  go_enter Try.func132, Try.ntmps132
  go_wp2_with (simp only [hov])
  go_region_law_o (refine scp132 rfl _ _ 49 49 rfl _ _ (by simp [Act.eval, Act.put]) (by simp [Act.eval, Act.put]) (hcp1 _ _ _) ?_)
  go_wp2_with (at_builtin; refine lcp132 _ rfl _ _ 49 49 rfl _ _ rfl rfl (hcp2 _ (fun _ => rfl) (fun _ => rfl) _ _) ?_)
  go_ret
  exact ⟨rfl, 1, by rw [N.out]; rfl⟩

open Go.RowKit in
set_option maxHeartbeats 8000000 in
theorem grow132 (w : World) (xs ys : List (ByteArray × ByteArray × ByteArray × Unit)) (b off cap : Nat) (cur : Array Value) (ty : TypeId) (fz : Nat × Nat) (vb voff vcap : Nat) (vcur : Array Value) (vty : TypeId) (vfz : Nat × Nat) (i : Nat) (hA : OwnAt w (Ty.cons Ty.str (Ty.cons Ty.str (Ty.cons Ty.str Ty.unit))) xs b off cap cur ty fz) (hB : OwnAt w (Ty.cons Ty.str (Ty.cons Ty.str (Ty.cons Ty.str Ty.unit))) ys vb voff vcap vcur vty vfz) (h1 : ys.length = 1) (hvb : vb ≠ b) (hi : i < xs.length) (hroom : cap < xs.length + 1) (hmax : xs.length ≤ 1048576) :
      Calls Try.prog 132 #[.slice (some ⟨b, off, none⟩) xs.length cap, .int .i64 i, .slice (some ⟨vb, voff, none⟩) 1 vcap] w fun r w' => ∃ v', r = .returned v' ∧ w'.ownsRow w.heap.size 80 (Ty.size (Ty.cons Ty.str (Ty.cons Ty.str (Ty.cons Ty.str Ty.unit)))) v' (xs.length + 1) (fcs (Ty.cons Ty.str (Ty.cons Ty.str (Ty.cons Ty.str Ty.unit))) (xs.take i ++ (ys ++ xs.drop i))) ∧ Below w.heap.size w w' := by
  have mixed := mixed
  obtain ⟨i0, z, hi0, hz1, hz0, hzc, hzm, by', hb1, hb2, hb3⟩ := info132
  have hlen := hA.len
  have hcapm := hA.capm
  have hvl : (fcs (Ty.cons Ty.str (Ty.cons Ty.str (Ty.cons Ty.str Ty.unit))) ys).length = 1 * 3 := by
    have := fcs_length (t := (Ty.cons Ty.str (Ty.cons Ty.str (Ty.cons Ty.str Ty.unit)))) rfl (xs := ys) hB.wf
    rw [this, h1]; rfl
  have hdl : (fcs (Ty.cons Ty.str (Ty.cons Ty.str (Ty.cons Ty.str Ty.unit))) (xs.drop i)).length = (xs.length - i) * 3 := by
    have := fcs_length (t := (Ty.cons Ty.str (Ty.cons Ty.str (Ty.cons Ty.str Ty.unit)))) rfl (xs := xs.drop i) (fun x hx => hA.wf x (List.mem_of_mem_drop hx))
    rw [this, List.length_drop]; rfl
  have htl : (fcs (Ty.cons Ty.str (Ty.cons Ty.str (Ty.cons Ty.str Ty.unit))) (xs.take i)).length = i * 3 := by
    have := fcs_length (t := (Ty.cons Ty.str (Ty.cons Ty.str (Ty.cons Ty.str Ty.unit)))) rfl (xs := xs.take i) (fun x hx => hA.wf x (List.mem_of_mem_take hx))
    rw [this, List.length_take, Nat.min_eq_left (by omega)]; rfl
  have hdc : ∀ (k : Nat) (u : Value), (fcs (Ty.cons Ty.str (Ty.cons Ty.str (Ty.cons Ty.str Ty.unit))) (xs.drop i))[k]? = some u → w.cell? ⟨b, off + i * 3 + k, none⟩ = some u := fun k u hk => by
    have := hA.cell _ _ (fcs_drop rfl hA.wf i (by omega) k u hk)
    rwa [Nat.add_assoc]
  have htc : ∀ (k : Nat) (u : Value), (fcs (Ty.cons Ty.str (Ty.cons Ty.str (Ty.cons Ty.str Ty.unit))) (xs.take i))[k]? = some u → w.cell? ⟨b, off + k, none⟩ = some u := fun k u hk => hA.cell _ _ (fcs_take rfl hA.wf i k u hk)
  have hbw := hA.lt
  have hvw := hB.lt
  obtain ⟨vs, hvs⟩ : ∃ vs, vs = fcs (Ty.cons Ty.str (Ty.cons Ty.str (Ty.cons Ty.str Ty.unit))) ys := ⟨_, rfl⟩
  obtain ⟨ds, hds⟩ : ∃ ds, ds = fcs (Ty.cons Ty.str (Ty.cons Ty.str (Ty.cons Ty.str Ty.unit))) (xs.drop i) := ⟨_, rfl⟩
  obtain ⟨ts, hts⟩ : ∃ ts, ts = fcs (Ty.cons Ty.str (Ty.cons Ty.str (Ty.cons Ty.str Ty.unit))) (xs.take i) := ⟨_, rfl⟩
  have hvc : ∀ (j : Nat) (u : Value), vs[j]? = some u → w.cell? ⟨vb, voff + j, none⟩ = some u := fun j u hj => hB.cell j u (by rw [← hvs]; exact hj)
  have s1 : ∀ u ∈ ds, u.oneCell' = true := by rw [hds]; exact fcells_ones rfl _
  have s2 : ∀ u ∈ vs, u.oneCell' = true := by rw [hvs]; exact fcells_ones rfl _
  rw [fcs_append, fcs_append, ← hvs, ← hds, ← hts]
  rw [← hvs] at hvl
  rw [← hds] at hdl hdc
  rw [← hts] at htl htc
  have hbig : (xs.length + 1) * i0.bytes ≤ 140737488355328 := by
    have : (xs.length + 1) * i0.bytes ≤ 1048577 * i0.bytes := Nat.mul_le_mul_right _ (by omega)
    rw [Nat.mul_comm 1048577] at this
    omega
  have hkk : (xs.length : Int) + 1 - (i : Int) = ((xs.length + 1 - i : Nat) : Int) := by omega
  have hik : i + (xs.length + 1 - i) = xs.length + 1 := by omega
  have hold : (Builtin.firstCells i0.size i (.slice (some ⟨b, off, none⟩) i cap)).run Try.prog w.drew = .ok ts.toArray w.drew := by
    rw [hz1]
    exact run_firstCells_some w.drew 3 i ⟨b, off, none⟩ i cap ts htl (fun j v hj => by rw [Addr.add_lit]; exact htc j v hj)
  have h48 : (xs.length + 1 - i) * i0.bytes ≤ 281474976710656 := by
    have : (xs.length + 1 - i) * i0.bytes ≤ (xs.length + 1) * i0.bytes := Nat.mul_le_mul_right _ (by omega)
    omega
  have hrz : ∀ ty, (Builtin.append_ #[49, 3] ty #[.slice (some ⟨b, off, none⟩) i cap, .int .i64 ((xs.length : Int) + 1 - (i : Int))]).run Try.prog w =
      .ok (.slice (some ⟨w.heap.size, 0, none⟩) (xs.length + 1) (grownCap w (xs.length + 1) cap 80)) (w.drew.alloc (.cells (ts.toArray ++ Builtin.zeroCells z.cells (xs.length + 1 - i) ++ Builtin.zeroCells z.cells (grownCap w (xs.length + 1) cap 80 - (xs.length + 1))) 80)) := fun ty => by
    have h := Lib.run_append_grow_zeros w 49 3 ty 80 i0 z .i64 .i64 Try.underlying49 Try.underlying3 hi0 hz0 (some ⟨b, off, none⟩) i cap ts hold (xs.length + 1 - i) (by omega) (by omega) (by omega) (by omega) h48 (by rw [hik]; exact growslice_fits hroom hbig)
    rw [hik] at h
    rw [hkk]
    exact h
  have hge := grownCap_ge w (xs.length + 1) cap 80
  have hgm := grownCap_le_maxLen w (xs.length + 1) cap 80 (by unfold maxLen; omega)
  obtain ⟨G, hG⟩ : ∃ G, G = grownCap w (xs.length + 1) cap 80 := ⟨_, rfl⟩
  rw [← hG] at hrz hge hgm
  obtain ⟨ROW, hROW⟩ : ∃ ROW : Array Value, ROW = ts.toArray ++ Builtin.zeroCells z.cells (xs.length + 1 - i) ++ Builtin.zeroCells z.cells (G - (xs.length + 1)) := ⟨_, rfl⟩
  rw [← hROW] at hrz
  have hzs : ∀ k, (Builtin.zeroCells z.cells k).size = k * 3 := fun k => by
    rw [← Array.length_toList, hzc, zeroCells_k]; simp [dcells]
  have hRs : ROW.size = G * 3 := by
    rw [hROW, Array.size_append, Array.size_append, List.size_toArray, htl, hzs, hzs, ← Nat.add_mul, hik, ← Nat.add_mul]
    congr 1; omega
  have hRt : ∀ (k : Nat) (u : Value), ts[k]? = some u → ROW[k]? = some u := fun k u hk => by
    have hlt := (List.getElem?_eq_some_iff.1 hk).1
    rw [hROW, Array.append_assoc, Array.getElem?_append_left (by simpa using hlt)]
    simpa using hk
  have hmul : (xs.length + 1) * 3 ≤ G * 3 := Nat.mul_le_mul_right _ hge
  obtain ⟨W1, hW1⟩ : ∃ W1, W1 = w.drew.alloc (.cells ROW 80) := ⟨_, rfl⟩
  rw [← hW1] at hrz
  have hblk : W1.heap[w.heap.size]? = some (.cells ROW 80 (0, 0)) := by rw [hW1]; exact heap_alloc_new w.drew _
  have hN : ∀ j, j < G * 3 → (W1.cell? ⟨w.heap.size, j, none⟩).isSome = true := fun j hj => by
    simp only [World.cell?, hblk]; rw [Array.getElem?_eq_getElem (by omega)]; rfl
  have hNf : ∀ j, W1.frozen? ⟨w.heap.size, j, none⟩ = false := fun j => by
    simp only [World.frozen?, hblk]; simp
  have hOld : ∀ k, k < w.heap.size → W1.heap[k]? = w.heap[k]? := fun k hk => by rw [hW1]; exact heap_alloc_old w.drew _ hk
  have hOb : ∀ j v, w.cell? ⟨b, j, none⟩ = some v → W1.cell? ⟨b, j, none⟩ = some v := fun j v h => by simp only [World.cell?] at h ⊢; rw [hOld b hbw]; exact h
  have hOv : ∀ j v, w.cell? ⟨vb, j, none⟩ = some v → W1.cell? ⟨vb, j, none⟩ = some v := fun j v h => by simp only [World.cell?] at h ⊢; rw [hOld vb hvw]; exact h
  have hbN : b ≠ w.heap.size := by omega
  have e2 : (i + 1) * 3 = i * 3 + 3 := Nat.succ_mul _ _
  have e1 : (i + 1) * 3 + (xs.length - i) * 3 = (xs.length + 1) * 3 := by rw [← Nat.add_mul]; congr 1; omega
  have hcpA : ∀ (W : World), (∀ x, W.cell? x = W1.cell? x) → (∀ x, W.frozen? x = W1.frozen? x) → ∀ ty dc, (Builtin.copy_ #[49, 49] ty #[.slice (some ⟨w.heap.size, i * 3, none⟩) (xs.length + 1 - i) dc, .slice (some ⟨vb, voff, none⟩) 1 vcap]).run Try.prog W = .ok (goInt (Nat.min 1 (xs.length + 1 - i))) (W.setCells w.heap.size (i * 3) vs) := fun W hWc hWf ty dc =>
    run_copy_k W _ _ ty 80 3 w.heap.size (i * 3) (xs.length + 1 - i) dc ⟨vb, voff, none⟩ 1 vcap vs Try.underlying49 hzm (by rw [hvl]; congr 1; simp only [Nat.min_def]; split <;> omega)
      (fun j v hj => by rw [Addr.add_lit, hWc]; exact hOv _ v (hvc j v hj))
      (fun j hj => by rw [hWc]; exact hN _ (by omega)) (fun j hj => by rw [hWf]; exact hNf _) s2
  have hcpB : ∀ (W : World), (∀ x, W.cell? x = (W1.setCells w.heap.size (i * 3) vs).cell? x) → (∀ x, W.frozen? x = (W1.setCells w.heap.size (i * 3) vs).frozen? x) → ∀ ty dc sc, (Builtin.copy_ #[49, 49] ty #[.slice (some ⟨w.heap.size, (i + 1) * 3, none⟩) (xs.length - i) dc, .slice (some ⟨b, off + i * 3, none⟩) (xs.length - i) sc]).run Try.prog W = .ok (goInt (Nat.min (xs.length - i) (xs.length - i))) (W.setCells w.heap.size ((i + 1) * 3) ds) := fun W hWc hWf ty dc sc =>
    run_copy_k W _ _ ty 80 3 w.heap.size ((i + 1) * 3) (xs.length - i) dc ⟨b, off + i * 3, none⟩ (xs.length - i) sc ds Try.underlying49 hzm (by rw [hdl]; congr 1; simp only [Nat.min_def]; split <;> omega)
      (fun j v hj => by
        rw [Addr.add_lit, hWc, World.cell?_setCells_out _ _ _ _ _ (fun h _ => absurd h hbN)]
        exact hOb _ v (hdc j v hj))
      (fun j hj => by rw [hWc]; exact isSome_put _ _ _ _ _ (hN _ (by omega)))
      (fun j hj => by rw [hWf, World.frozen?_setCells]; exact hNf _) s1
  -- what the new row holds at the end
  have fin : ∀ q1 q2 : Nat, (((W1.drewN q1).setCells w.heap.size (i * 3) vs).drewN q2 |>.setCells w.heap.size ((i + 1) * 3) ds).ownsRow w.heap.size 80 (Ty.size (Ty.cons Ty.str (Ty.cons Ty.str (Ty.cons Ty.str Ty.unit)))) (.slice (some ⟨w.heap.size, 0, none⟩) (xs.length + 1) G) (xs.length + 1) (ts ++ (vs ++ ds)) ∧
      Below w.heap.size w (((W1.drewN q1).setCells w.heap.size (i * 3) vs).drewN q2 |>.setCells w.heap.size ((i + 1) * 3) ds) := fun q1 q2 => by
    have el : (ts ++ (vs ++ ds)).length = (xs.length + 1) * 3 := by
      rw [List.length_append, List.length_append, htl, hvl, hdl, ← Nat.add_mul, ← Nat.add_mul]; congr 1; omega
    have l1 : i * 3 + vs.length ≤ ROW.size := by rw [hvl, hRs]; omega
    obtain ⟨c1, g1, g2, g3, g4, g5, g6⟩ := setCells_block vs (show (W1.drewN q1).heap[w.heap.size]? = some (.cells ROW 80 (0, 0)) from hblk) l1
    have l2 : (i + 1) * 3 + ds.length ≤ c1.size := by rw [hdl, g2, hRs]; omega
    obtain ⟨c2, k1, k2, k3, k4, k5, k6⟩ := setCells_block ds (show (((W1.drewN q1).setCells w.heap.size (i * 3) vs).drewN q2).heap[w.heap.size]? = some (.cells c1 80 (0, 0)) from g1) l2
    have kA := setCells_kept vs (show (W1.drewN q1).heap[w.heap.size]? = some (.cells ROW 80 (0, 0)) from hblk) l1
    have kB := setCells_kept ds (show (((W1.drewN q1).setCells w.heap.size (i * 3) vs).drewN q2).heap[w.heap.size]? = some (.cells c1 80 (0, 0)) from g1) l2
    have kAll : Kept [w.heap.size] w (((W1.drewN q1).setCells w.heap.size (i * 3) vs).drewN q2 |>.setCells w.heap.size ((i + 1) * 3) ds) := by
      have k0 : Kept [w.heap.size] w W1 := by rw [hW1]; exact ((Kept.refl _ w).drew).alloc _
      have k1 : Kept [w.heap.size] W1 (W1.drewN q1) := ⟨rfl, rfl, rfl, Nat.le_refl _, fun _ _ _ => rfl⟩
      have k2 : Kept [w.heap.size] ((W1.drewN q1).setCells w.heap.size (i * 3) vs) (((W1.drewN q1).setCells w.heap.size (i * 3) vs).drewN q2) := ⟨rfl, rfl, rfl, Nat.le_refl _, fun _ _ _ => rfl⟩
      exact ((k0.trans k1).trans (kA.trans k2)).trans kB
    refine ⟨⟨el, .inr ⟨w.heap.size, G, c2, rfl, Nat.le_refl _, k1, hge, hgm, by rw [k2, g2, hRs]; rfl, ?_⟩⟩, ⟨kAll.os, kAll.tape, kAll.output, kAll.size, fun k hk => kAll.block k hk (by simp; omega)⟩⟩
    apply List.ext_getElem?
    intro k
    rw [List.getElem?_take]
    by_cases hk : k < (xs.length + 1) * 3
    · rw [if_pos (show k < (xs.length + 1) * Ty.size (Ty.cons Ty.str (Ty.cons Ty.str (Ty.cons Ty.str Ty.unit))) from hk), Array.getElem?_toList]
      have hk' : k < (ts ++ (vs ++ ds)).length := by rw [el]; exact hk
      obtain ⟨u, hu⟩ : ∃ u, (ts ++ (vs ++ ds))[k]? = some u := ⟨_, List.getElem?_eq_getElem hk'⟩
      rw [hu]
      by_cases h1 : k < i * 3
      · rw [List.getElem?_append_left (by omega)] at hu
        rw [k4 _ (.inl (by omega)), g4 _ (.inl (by omega))]
        exact hRt k u hu
      · rw [List.getElem?_append_right (by omega), htl] at hu
        by_cases h2 : k < i * 3 + 3
        · rw [List.getElem?_append_left (by omega)] at hu
          have := g3 _ u hu
          rw [k4 _ (.inl (by omega))]
          rwa [show i * 3 + (k - i * 3) = k by omega] at this
        · rw [List.getElem?_append_right (by omega), hvl] at hu
          have := k3 _ u hu
          rwa [show (i + 1) * 3 + (k - i * 3 - 1 * 3) = k by omega] at this
    · rw [if_neg (show ¬ k < (xs.length + 1) * Ty.size (Ty.cons Ty.str (Ty.cons Ty.str (Ty.cons Ty.str Ty.unit))) from hk), List.getElem?_eq_none (by rw [el]; omega)]
  have F : Aside (∀ q1 q2 : Nat, (((W1.drewN q1).setCells w.heap.size (i * 3) vs).drewN q2 |>.setCells w.heap.size ((i + 1) * 3) ds).ownsRow w.heap.size 80 (Ty.size (Ty.cons Ty.str (Ty.cons Ty.str (Ty.cons Ty.str Ty.unit)))) (.slice (some ⟨w.heap.size, 0, none⟩) (xs.length + 1) G) (xs.length + 1) (ts ++ (vs ++ ds)) ∧
      Below w.heap.size w (((W1.drewN q1).setCells w.heap.size (i * 3) vs).drewN q2 |>.setCells w.heap.size ((i + 1) * 3) ds)) := fin
  subst hW1
  have hE1 : ∀ x, ((w.alloc (.cells ROW 80)).drew).cell? x = (w.drew.alloc (.cells ROW 80)).cell? x := fun x => rfl
  have hE2 : ∀ x, ((w.alloc (.cells ROW 80)).drew).frozen? x = (w.drew.alloc (.cells ROW 80)).frozen? x := fun x => rfl
  have hF1 : ∀ x, (((w.alloc (.cells ROW 80)).drew.setCells w.heap.size (i * 3) vs).drew).cell? x = ((w.drew.alloc (.cells ROW 80)).setCells w.heap.size (i * 3) vs).cell? x := fun x => rfl
  have hF2 : ∀ x, (((w.alloc (.cells ROW 80)).drew.setCells w.heap.size (i * 3) vs).drew).frozen? x = ((w.drew.alloc (.cells ROW 80)).setCells w.heap.size (i * 3) vs).frozen? x := fun x => rfl
  have hz2 : ¬ ((i : Int) = (xs.length : Int)) := by omega
  have hw1 : IntKind.i64.wrap ((i : Int) + 1) = (i : Int) + 1 := by rw [IntKind.wrap_i64]; omega
  have hw2 : IntKind.i64.wrap ((xs.length : Int) + 1) = (xs.length : Int) + 1 := by rw [IntKind.wrap_i64]; omega
  have hw3 : IntKind.i64.wrap ((xs.length : Int) + 1 - (i : Int)) = (xs.length : Int) + 1 - (i : Int) := by rw [IntKind.wrap_i64]; omega
  have hb1 : (0 : Int) ≤ (i : Int) + 1 := by omega
  have hin : i ≤ xs.length := by omega
  have htn : ((i : Int) + 1).toNat = i + 1 := by omega
  have hGi : ¬ (G = i) := by omega
  have hGim : ¬ (G = i + 1) := by omega
  have hci : ¬ (cap = i) := by omega
  have hb3 : (i : Int) ≤ (xs.length : Int) := by omega
  have hb5 : (cap : Int) < (xs.length : Int) + 1 := by omega
  have hG63 : G ≤ 9223372036854775807 := by unfold maxLen at hgm; exact hgm
  clear hkk hik hold hROW hG hRs hRt hzs hN hNf hOld hOb hOv fin s1 s2 hvc hvs hds hts hdc htc hdl htl hvl hzc hz0 hA hB e1 e2 hmul hblk
  go_enter Try.func132, Try.ntmps132
  go_wp2_with (first
    | (at_builtin; refine Lib.wpList_append_run _ rfl _ _ _ _ rfl _ _ rfl rfl _ _ (hrz _) ?_)
    | (at_builtin; refine lcp132 _ rfl _ _ 49 49 rfl _ _ rfl rfl (hcpA _ hE1 hE2 _ _) ?_)
    | (at_builtin; refine lcp132 _ rfl _ _ 49 49 rfl _ _ rfl rfl (hcpB _ (fun _ => rfl) (fun _ => rfl) _ _ _) ?_))
  go_region_law_o (refine scp132 rfl _ _ 49 49 rfl (.slice (some ⟨w.heap.size, (i + 1) * 3, none⟩) (xs.length - i) (G - (i + 1))) (.slice (some ⟨b, off + i * 3, none⟩) (xs.length - i) (cap - i)) (by simp [Act.eval, Act.put]) (by simp [Act.eval, Act.put]) (hcpB _ hF1 hF2 3 (G - (i + 1)) (cap - i)) ?_)
  go_wp2
  go_ret
  exact ⟨_, rfl, (F.out 0 1).1, (F.out 0 1).2⟩

def sig132 : List AT := [AT.own (Ty.cons Ty.str (Ty.cons Ty.str (Ty.cons Ty.str Ty.unit))), AT.v (Ty.int .i64), AT.own (Ty.cons Ty.str (Ty.cons Ty.str (Ty.cons Ty.str Ty.unit)))]
def g132_0 (x0 : List (ByteArray × ByteArray × ByteArray × Unit)) (x1 : Int) (x2 : List (ByteArray × ByteArray × ByteArray × Unit)) : List (ByteArray × ByteArray × ByteArray × Unit) := x0.take x1.toNat ++ (x2 ++ x0.drop x1.toNat)
def P132 (x0 : List (ByteArray × ByteArray × ByteArray × Unit)) (x1 : Int) (x2 : List (ByteArray × ByteArray × ByteArray × Unit)) : Prop := 0 ≤ x1 ∧ x1 ≤ x0.length ∧ x2.length = 1 ∧ x0.length ≤ 1048576
def S132 : Am.Spec := { sig := sig132, pre := fun ⟨x0, x1, x2, _⟩ => P132 x0 x1 x2, upd := fun _ => [none, none], res := fun ⟨x0, x1, x2, _⟩ => [⟨Ty.sl (Ty.cons Ty.str (Ty.cons Ty.str (Ty.cons Ty.str Ty.unit))), g132_0 x0 x1 x2⟩] }
theorem con132 : Contract Try.prog 132 S132 := insert_contract (t := (Ty.cons Ty.str (Ty.cons Ty.str (Ty.cons Ty.str Ty.unit)))) (e := 80) rfl shift132 grow132 end132 last132

end Go.Proofs.Ytjkeinpcphkfbaa

/- Function 107 (impl.putBlock): its runs between cut points. Written by a program of this repo (gen). -/
set_option linter.unusedVariables false
set_option linter.unusedSimpArgs false
set_option maxRecDepth 100000
namespace Go.Proofs.Ytjkeinpcphkfbaa
open Go Go.Am Go.Proofs
def ext107 : Ext := [(96, S96), (94, S94), (132, S132)]
theorem call107_96 : Callable Try.prog 96 := ⟨Try.f96, Try.func96, by kernel_rfl, by kernel_rfl⟩
theorem call107_94 : Callable Try.prog 94 := ⟨Try.f94, Try.func94, by kernel_rfl, by kernel_rfl⟩
theorem call107_132 : Callable Try.prog 132 := ⟨Try.f132, Try.func132, by kernel_rfl, by kernel_rfl⟩
theorem ext107Ok : ExtOk Try.prog ext107 := ⟨⟨call107_96, con96⟩, ⟨call107_94, con94⟩, ⟨call107_132, con132⟩, trivial⟩
/-! Function 107. -/
noncomputable def b107 : Code := bodyOf Try.f107
theorem hb107 : Try.f107.body = some b107 := by kernel_rfl
def sig107 : List AT := [AT.v (Ty.sl (Ty.cons Ty.str (Ty.cons Ty.str (Ty.cons Ty.str Ty.unit)))), AT.v (Ty.cons Ty.str (Ty.cons Ty.str (Ty.cons Ty.str Ty.unit)))]
def tys107 : List Ty := [Ty.sl (Ty.cons Ty.str (Ty.cons Ty.str (Ty.cons Ty.str Ty.unit)))]
def P107 (x0 : List (ByteArray × ByteArray × ByteArray × Unit)) (x1 : ByteArray × ByteArray × ByteArray × Unit) : Prop := ((P96 x0) ∧ ((P94 (g96_0 x0) x1) ∧ (if (g94_1 (g96_0 x0) x1) = true then ((0 ≤ g94_0 (g96_0 x0) x1) ∧ (g94_0 (g96_0 x0) x1 < (↑(List.length (g96_0 x0)) : Int)) ∧ True) else ((P132 (g96_0 x0) (g94_0 (g96_0 x0) x1) [x1]) ∧ True))))
def g107_0 (x0 : List (ByteArray × ByteArray × ByteArray × Unit)) (x1 : ByteArray × ByteArray × ByteArray × Unit) : List (ByteArray × ByteArray × ByteArray × Unit) := (if (g94_1 (g96_0 x0) x1) = true then List.set (g96_0 x0) (Int.toNat (g94_0 (g96_0 x0) x1)) x1 else g132_0 (g96_0 x0) (g94_0 (g96_0 x0) x1) [x1])
theorem p107_0 (x0 : List (ByteArray × ByteArray × ByteArray × Unit)) (x1 : ByteArray × ByteArray × ByteArray × Unit) : runF tab ext107 false 27 [] 2000 [] tys107 Try.f107.results [true] [.code b107] (entE 0 0 sig107 (x0, x1, ())) (entL sig107 (x0, x1, ())) = some ([Dyn.mk (Ty.sl (Ty.cons Ty.str (Ty.cons Ty.str (Ty.cons Ty.str Ty.unit)))) (List.set (g96_0 x0) (Int.toNat (g94_0 (g96_0 x0) x1)) x1)], [], [P96 x0, P94 (g96_0 x0) x1, g94_1 (g96_0 x0) x1 = Bool.true, 0 ≤ g94_0 (g96_0 x0) x1, g94_0 (g96_0 x0) x1 < (↑(List.length (g96_0 x0)) : Int)]) := by kernel_rfl
theorem p107_1 (x0 : List (ByteArray × ByteArray × ByteArray × Unit)) (x1 : ByteArray × ByteArray × ByteArray × Unit) : runF tab ext107 false 27 [] 2000 [] tys107 Try.f107.results [false] [.code b107] (entE 0 0 sig107 (x0, x1, ())) (entL sig107 (x0, x1, ())) = some ([Dyn.mk (Ty.sl (Ty.cons Ty.str (Ty.cons Ty.str (Ty.cons Ty.str Ty.unit)))) (g132_0 (g96_0 x0) (g94_0 (g96_0 x0) x1) [x1])], [], [P96 x0, P94 (g96_0 x0) x1, g94_1 (g96_0 x0) x1 = Bool.false, P132 (g96_0 x0) (g94_0 (g96_0 x0) x1) [x1]]) := by kernel_rfl
theorem at107 (x0 : List (ByteArray × ByteArray × ByteArray × Unit)) (x1 : ByteArray × ByteArray × ByteArray × Unit) (h : P107 x0 x1) (w0 : World) (O : List Nat) (q : Nat → Value) : AtV Try.prog 107 (PostR [⟨Ty.sl (Ty.cons Ty.str (Ty.cons Ty.str (Ty.cons Ty.str Ty.unit))), g107_0 x0 x1⟩] [] [] q w0 O) 27 w0 O q [] [.code b107] (entE 0 0 sig107 (x0, x1, ())) (entL sig107 (x0, x1, ())) := by
  unfold P107 at h
  unfold g107_0
  obtain ⟨s0, h⟩ := h
  obtain ⟨s1, h⟩ := h
  by_cases b0 : (g94_1 (g96_0 x0) x1) = true
  · try simp only [if_pos b0] at h ⊢
    obtain ⟨s2, s3, h⟩ := h
    exact AtV.fin Try.func107 tabOk ext107Ok mixed (p107_0 x0 x1) ⟨s0, s1, b0, s2, s3, trivial⟩
  · try simp only [if_neg b0] at h ⊢
    replace b0 := Bool.eq_false_iff.2 b0
    obtain ⟨s2, h⟩ := h
    exact AtV.fin Try.func107 tabOk ext107Ok mixed (p107_1 x0 x1) ⟨s0, s1, b0, s2, trivial⟩

def S107 : Am.Spec := { sig := sig107, pre := fun ⟨x0, x1, _⟩ => P107 x0 x1, res := fun ⟨x0, x1, _⟩ => [⟨Ty.sl (Ty.cons Ty.str (Ty.cons Ty.str (Ty.cons Ty.str Ty.unit))), g107_0 x0 x1⟩] }
theorem con107 : Contract Try.prog 107 S107 := contract_of Try.func107 hb107 (Nat.le_of_ble_eq_true (by kernel_rfl)) (fun ⟨x0, x1, _⟩ h _ w0 O q => at107 x0 x1 h w0 O q)


theorem bsb107 (p : Nat → Bool) : ∀ (m i j : Nat), i ≤ j → i ≤ bsearch p m i j ∧ bsearch p m i j ≤ j
  | 0, i, j, h => ⟨Nat.le_refl _, h⟩
  | m + 1, i, j, h => by
    simp only [bsearch]
    split
    · split
      · have := bsb107 p m ((i + j) / 2 + 1) j (by omega); omega
      · have := bsb107 p m i ((i + j) / 2) (by omega); omega
    · omega

theorem atk107 (x0 : List (ByteArray × ByteArray × ByteArray × Unit)) (x1 : (ByteArray × ByteArray × ByteArray × Unit)) : 0 ≤ g94_0 x0 x1 ∧ g94_0 x0 x1 ≤ x0.length ∧ (g94_1 x0 x1 = true → g94_0 x0 x1 < x0.length) := by
  have := bsb107 (p126c85 x0 x1) (x0.length + 1) 0 x0.length (by omega)
  unfold g94_0 g94_1 g126c85_0 g126c85_1 f126c85
  unfold k126c85 at *
  refine ⟨by omega, by omega, fun h => ?_⟩
  split at h
  · omega
  · cases h

theorem pre107 (x0 : List (ByteArray × ByteArray × ByteArray × Unit)) (x1 : (ByteArray × ByteArray × ByteArray × Unit)) (hl : x0.length ≤ 1048576) : P107 x0 x1 := by
  obtain ⟨a1, a2, a3⟩ := atk107 x0 x1
  have p1 : P96 x0 := hl
  have p2 : P94 x0 x1 := ⟨(show x0.length ≤ 4611686018427387903 from by omega), trivial⟩
  unfold P107
  refine ⟨p1, p2, ?_⟩
  by_cases h : g94_1 (g96_0 x0) x1 = true
  · rw [if_pos h]
    exact ⟨a1, a3 h, trivial⟩
  · rw [if_neg h]
    exact ⟨⟨a1, a2, rfl, hl⟩, trivial⟩

theorem len107 (x0 : List (ByteArray × ByteArray × ByteArray × Unit)) (x1 : (ByteArray × ByteArray × ByteArray × Unit)) : (g107_0 x0 x1).length ≤ x0.length + 1 := by
  unfold g107_0
  by_cases h : g94_1 (g96_0 x0) x1 = true
  · rw [if_pos h]; simp [g96_0]
  · rw [if_neg h]
    unfold g132_0 g96_0
    simp only [List.length_append, List.length_take, List.length_drop, List.length_singleton]
    omega

end Go.Proofs.Ytjkeinpcphkfbaa

/- Function 62 (impl.PutBlock): its runs between cut points. Written by a program of this repo (gen). -/
set_option linter.unusedVariables false
set_option linter.unusedSimpArgs false
set_option maxRecDepth 100000
namespace Go.Proofs.Ytjkeinpcphkfbaa
open Go Go.Am Go.Proofs
def ext62 : Ext := [(37, S37), (84, S84), (107, S107)]
theorem call62_37 : Callable Try.prog 37 := ⟨Try.f37, Try.func37, by kernel_rfl, by kernel_rfl⟩
theorem call62_84 : Callable Try.prog 84 := ⟨Try.f84, Try.func84, by kernel_rfl, by kernel_rfl⟩
theorem call62_107 : Callable Try.prog 107 := ⟨Try.f107, Try.func107, by kernel_rfl, by kernel_rfl⟩
theorem ext62Ok : ExtOk Try.prog ext62 := ⟨⟨call62_37, con37⟩, ⟨call62_84, con84⟩, ⟨call62_107, con107⟩, trivial⟩
/-! Function 62. -/
noncomputable def b62 : Code := bodyOf Try.f62
theorem hb62 : Try.f62.body = some b62 := by kernel_rfl
def sig62 : List AT := [AT.v (Ty.sl (Ty.cons Ty.str (Ty.cons Ty.str (Ty.cons Ty.str Ty.unit)))), AT.v (Ty.cons Ty.str (Ty.cons Ty.str (Ty.cons Ty.str Ty.unit)))]
def tys62 : List Ty := [Ty.sl (Ty.cons Ty.str (Ty.cons Ty.str (Ty.cons Ty.str Ty.unit))), Ty.int IntKind.i64]
def P62 (x0 : List (ByteArray × ByteArray × ByteArray × Unit)) (x1 : ByteArray × ByteArray × ByteArray × Unit) : Prop := (if (!g37_0 x0) = true then True else ((P84 x1) ∧ (if (!g84_0 x1) = true then True else ((P107 x0 x1) ∧ True))))
def g62_0 (x0 : List (ByteArray × ByteArray × ByteArray × Unit)) (x1 : ByteArray × ByteArray × ByteArray × Unit) : List (ByteArray × ByteArray × ByteArray × Unit) := (if (!g37_0 x0) = true then [] else (if (!g84_0 x1) = true then [] else (if (Decidable.decide ((↑(List.length (g107_0 x0 x1)) : Int) > 32)) = true then [] else g107_0 x0 x1)))
def g62_1 (x0 : List (ByteArray × ByteArray × ByteArray × Unit)) (x1 : ByteArray × ByteArray × ByteArray × Unit) : Int := (if (!g37_0 x0) = true then 1 else (if (!g84_0 x1) = true then 1 else (if (Decidable.decide ((↑(List.length (g107_0 x0 x1)) : Int) > 32)) = true then 5 else 0)))
theorem p62_0 (x0 : List (ByteArray × ByteArray × ByteArray × Unit)) (x1 : ByteArray × ByteArray × ByteArray × Unit) : runF tab ext62 false 22 [] 2000 [] tys62 Try.f62.results [true, true] [.code b62] (entE 0 0 sig62 (x0, x1, ())) (entL sig62 (x0, x1, ())) = some ([Dyn.mk (Ty.sl (Ty.cons Ty.str (Ty.cons Ty.str (Ty.cons Ty.str Ty.unit)))) [], Dyn.mk (Ty.int IntKind.i64) 1], [], [True, (!g37_0 x0) = Bool.true, Bool.true = Bool.true]) := by kernel_rfl
theorem p62_1 (x0 : List (ByteArray × ByteArray × ByteArray × Unit)) (x1 : ByteArray × ByteArray × ByteArray × Unit) : runF tab ext62 false 22 [] 2000 [] tys62 Try.f62.results [false, true] [.code b62] (entE 0 0 sig62 (x0, x1, ())) (entL sig62 (x0, x1, ())) = some ([Dyn.mk (Ty.sl (Ty.cons Ty.str (Ty.cons Ty.str (Ty.cons Ty.str Ty.unit)))) [], Dyn.mk (Ty.int IntKind.i64) 1], [], [True, (!g37_0 x0) = Bool.false, P84 x1, (!g84_0 x1) = Bool.true]) := by kernel_rfl
theorem p62_2 (x0 : List (ByteArray × ByteArray × ByteArray × Unit)) (x1 : ByteArray × ByteArray × ByteArray × Unit) : runF tab ext62 false 22 [] 2000 [] tys62 Try.f62.results [false, false, true] [.code b62] (entE 0 0 sig62 (x0, x1, ())) (entL sig62 (x0, x1, ())) = some ([Dyn.mk (Ty.sl (Ty.cons Ty.str (Ty.cons Ty.str (Ty.cons Ty.str Ty.unit)))) [], Dyn.mk (Ty.int IntKind.i64) 5], [], [True, (!g37_0 x0) = Bool.false, P84 x1, (!g84_0 x1) = Bool.false, P107 x0 x1, Decidable.decide ((↑(List.length (g107_0 x0 x1)) : Int) > 32) = Bool.true]) := by kernel_rfl
theorem p62_3 (x0 : List (ByteArray × ByteArray × ByteArray × Unit)) (x1 : ByteArray × ByteArray × ByteArray × Unit) : runF tab ext62 false 22 [] 2000 [] tys62 Try.f62.results [false, false, false] [.code b62] (entE 0 0 sig62 (x0, x1, ())) (entL sig62 (x0, x1, ())) = some ([Dyn.mk (Ty.sl (Ty.cons Ty.str (Ty.cons Ty.str (Ty.cons Ty.str Ty.unit)))) (g107_0 x0 x1), Dyn.mk (Ty.int IntKind.i64) 0], [], [True, (!g37_0 x0) = Bool.false, P84 x1, (!g84_0 x1) = Bool.false, P107 x0 x1, Decidable.decide ((↑(List.length (g107_0 x0 x1)) : Int) > 32) = Bool.false]) := by kernel_rfl
theorem at62 (x0 : List (ByteArray × ByteArray × ByteArray × Unit)) (x1 : ByteArray × ByteArray × ByteArray × Unit) (h : P62 x0 x1) (w0 : World) (O : List Nat) (q : Nat → Value) : AtV Try.prog 62 (PostR [⟨Ty.sl (Ty.cons Ty.str (Ty.cons Ty.str (Ty.cons Ty.str Ty.unit))), g62_0 x0 x1⟩, ⟨Ty.int IntKind.i64, g62_1 x0 x1⟩] [] [] q w0 O) 22 w0 O q [] [.code b62] (entE 0 0 sig62 (x0, x1, ())) (entL sig62 (x0, x1, ())) := by
  unfold P62 at h
  unfold g62_0 g62_1
  by_cases b0 : (!g37_0 x0) = true
  · try simp only [if_pos b0] at h ⊢
    exact AtV.fin Try.func62 tabOk ext62Ok mixed (p62_0 x0 x1) ⟨trivial, b0, rfl, trivial⟩
  · try simp only [if_neg b0] at h ⊢
    replace b0 := Bool.eq_false_iff.2 b0
    obtain ⟨s0, h⟩ := h
    by_cases b1 : (!g84_0 x1) = true
    · try simp only [if_pos b1] at h ⊢
      exact AtV.fin Try.func62 tabOk ext62Ok mixed (p62_1 x0 x1) ⟨trivial, b0, s0, b1, trivial⟩
    · try simp only [if_neg b1] at h ⊢
      replace b1 := Bool.eq_false_iff.2 b1
      obtain ⟨s1, h⟩ := h
      by_cases b2 : (Decidable.decide ((↑(List.length (g107_0 x0 x1)) : Int) > 32)) = true
      · try simp only [if_pos b2] at h ⊢
        exact AtV.fin Try.func62 tabOk ext62Ok mixed (p62_2 x0 x1) ⟨trivial, b0, s0, b1, s1, b2, trivial⟩
      · try simp only [if_neg b2] at h ⊢
        replace b2 := Bool.eq_false_iff.2 b2
        exact AtV.fin Try.func62 tabOk ext62Ok mixed (p62_3 x0 x1) ⟨trivial, b0, s0, b1, s1, b2, trivial⟩

def S62 : Am.Spec := { sig := sig62, pre := fun ⟨x0, x1, _⟩ => P62 x0 x1, res := fun ⟨x0, x1, _⟩ => [⟨Ty.sl (Ty.cons Ty.str (Ty.cons Ty.str (Ty.cons Ty.str Ty.unit))), g62_0 x0 x1⟩, ⟨Ty.int IntKind.i64, g62_1 x0 x1⟩] }
theorem con62 : Contract Try.prog 62 S62 := contract_of Try.func62 hb62 (Nat.le_of_ble_eq_true (by kernel_rfl)) (fun ⟨x0, x1, _⟩ h _ w0 O q => at62 x0 x1 h w0 O q)


end Go.Proofs.Ytjkeinpcphkfbaa

/- Function 86 (laws.eqBlock): its runs between cut points. Written by a program of this repo (gen). -/
set_option linter.unusedVariables false
set_option linter.unusedSimpArgs false
set_option maxRecDepth 100000
namespace Go.Proofs.Ytjkeinpcphkfbaa
open Go Go.Am Go.Proofs
def ext86 : Ext := []
theorem ext86Ok : ExtOk Try.prog ext86 := trivial
/-! Function 86. -/
noncomputable def b86 : Code := bodyOf Try.f86
theorem hb86 : Try.f86.body = some b86 := by kernel_rfl
def sig86 : List AT := [AT.v (Ty.cons Ty.str (Ty.cons Ty.str (Ty.cons Ty.str Ty.unit))), AT.v (Ty.cons Ty.str (Ty.cons Ty.str (Ty.cons Ty.str Ty.unit)))]
def tys86 : List Ty := [Ty.bool]
def P86 (x0 : ByteArray × ByteArray × ByteArray × Unit) (x1 : ByteArray × ByteArray × ByteArray × Unit) : Prop := True
def g86_0 (x0 : ByteArray × ByteArray × ByteArray × Unit) (x1 : ByteArray × ByteArray × ByteArray × Unit) : Bool := (if (!ByteArray.toList (Prod.fst x0) == ByteArray.toList (Prod.fst x1)) = true then Bool.false else (if (!ByteArray.toList (Prod.fst (Prod.snd x0)) == ByteArray.toList (Prod.fst (Prod.snd x1))) = true then Bool.false else (if (!ByteArray.toList (Prod.fst (Prod.snd (Prod.snd x0))) == ByteArray.toList (Prod.fst (Prod.snd (Prod.snd x1)))) = true then Bool.false else Bool.true)))
theorem p86_0 (x0 : ByteArray × ByteArray × ByteArray × Unit) (x1 : ByteArray × ByteArray × ByteArray × Unit) : runF tab ext86 false 20 [] 2000 [] tys86 Try.f86.results [true] [.code b86] (entE 0 0 sig86 (x0, x1, ())) (entL sig86 (x0, x1, ())) = some ([Dyn.mk Ty.bool Bool.false], [], [(!ByteArray.toList (Prod.fst x0) == ByteArray.toList (Prod.fst x1)) = Bool.true]) := by kernel_rfl
theorem p86_1 (x0 : ByteArray × ByteArray × ByteArray × Unit) (x1 : ByteArray × ByteArray × ByteArray × Unit) : runF tab ext86 false 20 [] 2000 [] tys86 Try.f86.results [false, true] [.code b86] (entE 0 0 sig86 (x0, x1, ())) (entL sig86 (x0, x1, ())) = some ([Dyn.mk Ty.bool Bool.false], [], [(!ByteArray.toList (Prod.fst x0) == ByteArray.toList (Prod.fst x1)) = Bool.false, (!ByteArray.toList (Prod.fst (Prod.snd x0)) == ByteArray.toList (Prod.fst (Prod.snd x1))) = Bool.true]) := by kernel_rfl
theorem p86_2 (x0 : ByteArray × ByteArray × ByteArray × Unit) (x1 : ByteArray × ByteArray × ByteArray × Unit) : runF tab ext86 false 20 [] 2000 [] tys86 Try.f86.results [false, false, true] [.code b86] (entE 0 0 sig86 (x0, x1, ())) (entL sig86 (x0, x1, ())) = some ([Dyn.mk Ty.bool Bool.false], [], [(!ByteArray.toList (Prod.fst x0) == ByteArray.toList (Prod.fst x1)) = Bool.false, (!ByteArray.toList (Prod.fst (Prod.snd x0)) == ByteArray.toList (Prod.fst (Prod.snd x1))) = Bool.false, (!ByteArray.toList (Prod.fst (Prod.snd (Prod.snd x0))) == ByteArray.toList (Prod.fst (Prod.snd (Prod.snd x1)))) = Bool.true]) := by kernel_rfl
theorem p86_3 (x0 : ByteArray × ByteArray × ByteArray × Unit) (x1 : ByteArray × ByteArray × ByteArray × Unit) : runF tab ext86 false 20 [] 2000 [] tys86 Try.f86.results [false, false, false] [.code b86] (entE 0 0 sig86 (x0, x1, ())) (entL sig86 (x0, x1, ())) = some ([Dyn.mk Ty.bool Bool.true], [], [(!ByteArray.toList (Prod.fst x0) == ByteArray.toList (Prod.fst x1)) = Bool.false, (!ByteArray.toList (Prod.fst (Prod.snd x0)) == ByteArray.toList (Prod.fst (Prod.snd x1))) = Bool.false, (!ByteArray.toList (Prod.fst (Prod.snd (Prod.snd x0))) == ByteArray.toList (Prod.fst (Prod.snd (Prod.snd x1)))) = Bool.false]) := by kernel_rfl
theorem at86 (x0 : ByteArray × ByteArray × ByteArray × Unit) (x1 : ByteArray × ByteArray × ByteArray × Unit) (h : P86 x0 x1) (w0 : World) (O : List Nat) (q : Nat → Value) : AtV Try.prog 86 (PostR [⟨Ty.bool, g86_0 x0 x1⟩] [] [] q w0 O) 20 w0 O q [] [.code b86] (entE 0 0 sig86 (x0, x1, ())) (entL sig86 (x0, x1, ())) := by
  unfold P86 at h
  unfold g86_0
  by_cases b0 : (!ByteArray.toList (Prod.fst x0) == ByteArray.toList (Prod.fst x1)) = true
  · try simp only [if_pos b0] at h ⊢
    exact AtV.fin Try.func86 tabOk ext86Ok mixed (p86_0 x0 x1) ⟨b0, trivial⟩
  · try simp only [if_neg b0] at h ⊢
    replace b0 := Bool.eq_false_iff.2 b0
    by_cases b1 : (!ByteArray.toList (Prod.fst (Prod.snd x0)) == ByteArray.toList (Prod.fst (Prod.snd x1))) = true
    · try simp only [if_pos b1] at h ⊢
      exact AtV.fin Try.func86 tabOk ext86Ok mixed (p86_1 x0 x1) ⟨b0, b1, trivial⟩
    · try simp only [if_neg b1] at h ⊢
      replace b1 := Bool.eq_false_iff.2 b1
      by_cases b2 : (!ByteArray.toList (Prod.fst (Prod.snd (Prod.snd x0))) == ByteArray.toList (Prod.fst (Prod.snd (Prod.snd x1)))) = true
      · try simp only [if_pos b2] at h ⊢
        exact AtV.fin Try.func86 tabOk ext86Ok mixed (p86_2 x0 x1) ⟨b0, b1, b2, trivial⟩
      · try simp only [if_neg b2] at h ⊢
        replace b2 := Bool.eq_false_iff.2 b2
        exact AtV.fin Try.func86 tabOk ext86Ok mixed (p86_3 x0 x1) ⟨b0, b1, b2, trivial⟩

def S86 : Am.Spec := { sig := sig86, pre := fun ⟨x0, x1, _⟩ => P86 x0 x1, res := fun ⟨x0, x1, _⟩ => [⟨Ty.bool, g86_0 x0 x1⟩] }
theorem con86 : Contract Try.prog 86 S86 := contract_of Try.func86 hb86 (Nat.le_of_ble_eq_true (by kernel_rfl)) (fun ⟨x0, x1, _⟩ h _ w0 O q => at86 x0 x1 h w0 O q)


theorem eqd86 (x y : ByteArray × ByteArray × ByteArray × Unit) : g86_0 x y = true ↔ x = y := by
  obtain ⟨a, b, c, u⟩ := x
  obtain ⟨a', b', c', u'⟩ := y
  unfold g86_0
  simp only [Bool.not_eq_true', bytes_ne]
  by_cases h1 : a = a'
  · by_cases h2 : b = b'
    · by_cases h3 : c = c'
      · simp [h1, h2, h3]
      · simp [h1, h2, h3]
    · simp [h1, h2]
  · simp [h1]

end Go.Proofs.Ytjkeinpcphkfbaa

/- Function 38 (laws.eqBlockS): its runs between cut points. Written by a program of this repo (gen). -/
set_option linter.unusedVariables false
set_option linter.unusedSimpArgs false
set_option maxRecDepth 100000
namespace Go.Proofs.Ytjkeinpcphkfbaa
open Go Go.Am Go.Proofs
def ext38 : Ext := [(86, S86)]
theorem call38_86 : Callable Try.prog 86 := ⟨Try.f86, Try.func86, by kernel_rfl, by kernel_rfl⟩
theorem ext38Ok : ExtOk Try.prog ext38 := ⟨⟨call38_86, con86⟩, trivial⟩
/-! Function 38. -/
noncomputable def b38 : Code := bodyOf Try.f38
theorem hb38 : Try.f38.body = some b38 := by kernel_rfl
def sig38 : List AT := [AT.v (Ty.sl (Ty.cons Ty.str (Ty.cons Ty.str (Ty.cons Ty.str Ty.unit)))), AT.v (Ty.sl (Ty.cons Ty.str (Ty.cons Ty.str (Ty.cons Ty.str Ty.unit))))]
def tys38 : List Ty := [Ty.bool]
def E38_4 (v5 : Int) (x0 : List (ByteArray × ByteArray × ByteArray × Unit)) (x1 : List (ByteArray × ByteArray × ByteArray × Unit)) : Env := [(0, PV.a (Atom.sl (Ty.cons Ty.str (Ty.cons Ty.str (Ty.cons Ty.str Ty.unit))) x0)), (1, PV.a (Atom.sl (Ty.cons Ty.str (Ty.cons Ty.str (Ty.cons Ty.str Ty.unit))) x1)), (5, PV.a (Atom.val (Value.int IntKind.i64 v5)))]
def L38_4 (v5 : Int) (x0 : List (ByteArray × ByteArray × ByteArray × Unit)) (x1 : List (ByteArray × ByteArray × ByteArray × Unit)) : Heap := []
mutual
def R38 : Nat → List (ByteArray × ByteArray × ByteArray × Unit) → List (ByteArray × ByteArray × ByteArray × Unit) → List Dyn → Prop
  | 0, _, _, _ => False
  | n + 1, x0, x1, ds => (if ((↑(List.length x0) : Int) != (↑(List.length x1) : Int)) = true then (ds = [Dyn.mk Ty.bool Bool.false]) else (R38_4 n (0) (x0) (x1) ds))
def R38_4 : Nat → Int → List (ByteArray × ByteArray × ByteArray × Unit) → List (ByteArray × ByteArray × ByteArray × Unit) → List Dyn → Prop
  | 0, _, _, _, _ => False
  | n + 1, v5, x0, x1, ds => (if (Decidable.decide (v5 < (↑(List.length x0) : Int))) = true then ((0 ≤ v5) ∧ (v5 < (↑(List.length x0) : Int)) ∧ ((0 ≤ v5) ∧ (v5 < (↑(List.length x1) : Int)) ∧ (if (!g86_0 (List.getD x0 (Int.toNat v5) (ByteArray.empty, ByteArray.empty, ByteArray.empty, ())) (List.getD x1 (Int.toNat v5) (ByteArray.empty, ByteArray.empty, ByteArray.empty, ()))) = true then (ds = [Dyn.mk Ty.bool Bool.false]) else ((InR IntKind.i64 (v5 + 1)) ∧ (R38_4 n (v5 + 1) (x0) (x1) ds))))) else (ds = [Dyn.mk Ty.bool Bool.true]))
end
theorem p38_0 (x0 : List (ByteArray × ByteArray × ByteArray × Unit)) (x1 : List (ByteArray × ByteArray × ByteArray × Unit)) : runF tab ext38 false 27 [] 2000 [] tys38 Try.f38.results [true] [.code b38] (entE 0 0 sig38 (x0, x1, ())) (entL sig38 (x0, x1, ())) = some ([Dyn.mk Ty.bool Bool.false], [], [((↑(List.length x0) : Int) != (↑(List.length x1) : Int)) = Bool.true]) := by kernel_rfl
theorem p38_1 (x0 : List (ByteArray × ByteArray × ByteArray × Unit)) (x1 : List (ByteArray × ByteArray × ByteArray × Unit)) : Am.runN tab ext38 false 27 [] 2000 [] [] [0, 1, 5] [] [false] [.code b38] (entE 0 0 sig38 (x0, x1, ())) (entL sig38 (x0, x1, ())) = some (cutAt b38 4, E38_4 (0) (x0) (x1), L38_4 (0) (x0) (x1), [((↑(List.length x0) : Int) != (↑(List.length x1) : Int)) = Bool.false]) := by kernel_rfl
theorem p38_2 (v5 : Int) (x0 : List (ByteArray × ByteArray × ByteArray × Unit)) (x1 : List (ByteArray × ByteArray × ByteArray × Unit)) : runF tab ext38 false 27 [] 2000 [] tys38 Try.f38.results [true, true] (cutAt b38 4) (E38_4 v5 x0 x1) (L38_4 v5 x0 x1) = some ([Dyn.mk Ty.bool Bool.false], [], [Decidable.decide (v5 < (↑(List.length x0) : Int)) = Bool.true, 0 ≤ v5, v5 < (↑(List.length x0) : Int), 0 ≤ v5, v5 < (↑(List.length x1) : Int), True, (!g86_0 (List.getD x0 (Int.toNat v5) (ByteArray.empty, ByteArray.empty, ByteArray.empty, ())) (List.getD x1 (Int.toNat v5) (ByteArray.empty, ByteArray.empty, ByteArray.empty, ()))) = Bool.true]) := by kernel_rfl
theorem p38_3 (v5 : Int) (x0 : List (ByteArray × ByteArray × ByteArray × Unit)) (x1 : List (ByteArray × ByteArray × ByteArray × Unit)) : Am.runN tab ext38 false 27 [] 2000 [] [] [0, 1, 5] [] [true, false] (cutAt b38 4) (E38_4 v5 x0 x1) (L38_4 v5 x0 x1) = some (cutAt b38 4, E38_4 (v5 + 1) (x0) (x1), L38_4 (v5 + 1) (x0) (x1), [Decidable.decide (v5 < (↑(List.length x0) : Int)) = Bool.true, 0 ≤ v5, v5 < (↑(List.length x0) : Int), 0 ≤ v5, v5 < (↑(List.length x1) : Int), True, (!g86_0 (List.getD x0 (Int.toNat v5) (ByteArray.empty, ByteArray.empty, ByteArray.empty, ())) (List.getD x1 (Int.toNat v5) (ByteArray.empty, ByteArray.empty, ByteArray.empty, ()))) = Bool.false, InR IntKind.i64 (v5 + 1)]) := by kernel_rfl
theorem p38_4 (v5 : Int) (x0 : List (ByteArray × ByteArray × ByteArray × Unit)) (x1 : List (ByteArray × ByteArray × ByteArray × Unit)) : runF tab ext38 false 27 [] 2000 [] tys38 Try.f38.results [false] (cutAt b38 4) (E38_4 v5 x0 x1) (L38_4 v5 x0 x1) = some ([Dyn.mk Ty.bool Bool.true], [], [Decidable.decide (v5 < (↑(List.length x0) : Int)) = Bool.false]) := by kernel_rfl
theorem snd38 : ∀ n, (∀ (x0 : List (ByteArray × ByteArray × ByteArray × Unit)) (x1 : List (ByteArray × ByteArray × ByteArray × Unit)) ds, R38 n x0 x1 ds → ∀ w0 O q, AtV Try.prog 38 (PostR ds [] [] q w0 O) 27 w0 O q [] [.code b38] (entE 0 0 sig38 (x0, x1, ())) (entL sig38 (x0, x1, ()))) ∧ (∀ (v5 : Int) (x0 : List (ByteArray × ByteArray × ByteArray × Unit)) (x1 : List (ByteArray × ByteArray × ByteArray × Unit)) ds, R38_4 n v5 x0 x1 ds → ∀ w0 O q, AtV Try.prog 38 (PostR ds [] [] q w0 O) 27 w0 O q [] (cutAt b38 4) (E38_4 v5 x0 x1) (L38_4 v5 x0 x1)) := by
  intro n
  induction n with
  | zero => exact ⟨fun _ _ _ h => by simp only [R38] at h, fun _ _ _ _ h => by simp only [R38_4] at h⟩
  | succ n ih =>
  obtain ⟨ih, ih4⟩ := ih
  refine ⟨?_, ?_⟩
  · intro x0 x1 ds h w0 O q
    rw [R38] at h
    by_cases b0 : ((↑(List.length x0) : Int) != (↑(List.length x1) : Int)) = true
    · rw [if_pos b0] at h
      subst h
      exact AtV.fin Try.func38 tabOk ext38Ok mixed (p38_0 x0 x1) ⟨b0, trivial⟩
    · rw [if_neg b0] at h
      replace b0 := Bool.eq_false_iff.2 b0
      exact AtV.runN tabOk ext38Ok mixed (p38_1 x0 x1) ⟨b0, trivial⟩ (ih4 _ _ _ _ h w0 O q)

  · intro v5 x0 x1 ds h w0 O q
    rw [R38_4] at h
    by_cases b0 : (Decidable.decide (v5 < (↑(List.length x0) : Int))) = true
    · rw [if_pos b0] at h
      obtain ⟨s0, s1, h⟩ := h
      obtain ⟨s2, s3, h⟩ := h
      by_cases b1 : (!g86_0 (List.getD x0 (Int.toNat v5) (ByteArray.empty, ByteArray.empty, ByteArray.empty, ())) (List.getD x1 (Int.toNat v5) (ByteArray.empty, ByteArray.empty, ByteArray.empty, ()))) = true
      · rw [if_pos b1] at h
        subst h
        exact AtV.fin Try.func38 tabOk ext38Ok mixed (p38_2 v5 x0 x1) ⟨b0, s0, s1, s2, s3, trivial, b1, trivial⟩
      · rw [if_neg b1] at h
        replace b1 := Bool.eq_false_iff.2 b1
        obtain ⟨s4, h⟩ := h
        exact AtV.runN tabOk ext38Ok mixed (p38_3 v5 x0 x1) ⟨b0, s0, s1, s2, s3, trivial, b1, s4, trivial⟩ (ih4 _ _ _ _ h w0 O q)
    · rw [if_neg b0] at h
      replace b0 := Bool.eq_false_iff.2 b0
      subst h
      exact AtV.fin Try.func38 tabOk ext38Ok mixed (p38_4 v5 x0 x1) ⟨b0, trivial⟩



theorem eq38 (x0 x1 : List (ByteArray × ByteArray × ByteArray × Unit)) (hl : x0.length = x1.length) (hm : x0.length ≤ maxLen) : ∀ k i : Nat, i + k = x0.length → R38_4 (k + 1) (i : Int) x0 x1 [⟨.bool, decide (x0.drop i = x1.drop i)⟩] := by
  intro k
  induction k with
  | zero =>
    intro i hi
    have h1 : ¬ (i : Int) < (x0.length : Int) := by omega
    rw [R38_4, if_neg (by simpa using h1), drop_end x0 i (by omega), drop_end x1 i (by omega)]
    simp
  | succ k ih =>
    intro i hi
    have h1 : (i : Int) < (x0.length : Int) := by omega
    rw [R38_4, if_pos (by simpa using h1)]
    refine ⟨by omega, h1, by omega, by omega, ?_⟩
    simp only [Int.toNat_natCast]
    rw [drop_get x0 i (ByteArray.empty, ByteArray.empty, ByteArray.empty, ()) (by omega), drop_get x1 i (ByteArray.empty, ByteArray.empty, ByteArray.empty, ()) (by omega)]
    by_cases he : x0.getD i (ByteArray.empty, ByteArray.empty, ByteArray.empty, ()) = x1.getD i (ByteArray.empty, ByteArray.empty, ByteArray.empty, ())
    · have hd := (eqd86 _ _).2 he
      rw [if_neg (by rw [hd]; simp)]
      refine ⟨inR_up hm (by omega), ?_⟩
      have := ih (i + 1) (by omega)
      simp only [he, List.cons.injEq, true_and]
      exact this
    · have hd : g86_0 (x0.getD i (ByteArray.empty, ByteArray.empty, ByteArray.empty, ())) (x1.getD i (ByteArray.empty, ByteArray.empty, ByteArray.empty, ())) = false :=
        Bool.eq_false_iff.2 fun h => he ((eqd86 _ _).1 h)
      rw [if_pos (by rw [hd]; rfl)]
      simp only [he, List.cons.injEq, false_and, decide_false]

def g38_0 (x0 x1 : List (ByteArray × ByteArray × ByteArray × Unit)) : Bool := decide (x0 = x1)
def P38 (x0 x1 : List (ByteArray × ByteArray × ByteArray × Unit)) : Prop := True
def S38 : Am.Spec := { sig := sig38, pre := fun ⟨x0, x1, _⟩ => P38 x0 x1, res := fun ⟨x0, x1, _⟩ => [⟨Ty.bool, g38_0 x0 x1⟩] }
theorem con38 : Contract Try.prog 38 S38 := contract_of Try.func38 hb38 (Nat.le_of_ble_eq_true (by kernel_rfl)) (fun ⟨x0, x1, _⟩ h hwf w0 O q => by
  refine (snd38 (x0.length + 2)).1 x0 x1 _ ?_ w0 O q
  show R38 (x0.length + 1 + 1) x0 x1 [⟨Ty.bool, decide (x0 = x1)⟩]
  rw [R38]
  by_cases hl : x0.length = x1.length
  · rw [if_neg (by simp [hl])]
    have := eq38 x0 x1 hl hwf.1.1 x0.length 0 (by omega)
    simpa using this
  · rw [if_pos (by simp; omega)]
    have : x0 ≠ x1 := fun h => hl (by rw [h])
    simp [this])

end Go.Proofs.Ytjkeinpcphkfbaa

/- Function 72 (laws.markText): its runs between cut points. Written by a program of this repo (gen). -/
set_option linter.unusedVariables false
set_option linter.unusedSimpArgs false
set_option maxRecDepth 100000
namespace Go.Proofs.Ytjkeinpcphkfbaa
open Go Go.Am Go.Proofs
def ext72 : Ext := []
theorem ext72Ok : ExtOk Try.prog ext72 := trivial
/-! Function 72. -/
noncomputable def b72 : Code := bodyOf Try.f72
theorem hb72 : Try.f72.body = some b72 := by kernel_rfl
def sig72 : List AT := [AT.v (Ty.int IntKind.i64)]
def tys72 : List Ty := [Ty.str]
def E72_4 (v3 : ByteArray) (x0 : Int) : Env := [(0, PV.a (Atom.val (Value.int IntKind.i64 x0))), (3, PV.a (Atom.val (Value.string v3)))]
def L72_4 (v3 : ByteArray) (x0 : Int) : Heap := []
mutual
def R72 : Nat → Int → List Dyn → Prop
  | 0, _, _ => False
  | n + 1, x0, ds => (if (Decidable.decide (x0 ≤ 0)) = true then (ds = [Dyn.mk Ty.str (ByteArray.mk #[109, 48])]) else (R72_4 n (ByteArray.mk #[]) (x0) ds))
def R72_4 : Nat → ByteArray → Int → List Dyn → Prop
  | 0, _, _, _ => False
  | n + 1, v3, x0, ds => (if (Decidable.decide (x0 > 0)) = true then ((InR IntKind.i64 (Int.tmod x0 10)) ∧ ((InR IntKind.i64 (48 + Int.tmod x0 10)) ∧ ((InR IntKind.u8 (48 + Int.tmod x0 10)) ∧ ((ByteArray.size (bytesStr [48 + Int.tmod x0 10]) + ByteArray.size v3 ≤ 9223372036854775807) ∧ ((InR IntKind.i64 (Int.tdiv x0 10)) ∧ (R72_4 n (bytesStr [48 + Int.tmod x0 10] ++ v3) (Int.tdiv x0 10) ds)))))) else ((1 + ByteArray.size v3 ≤ 9223372036854775807) ∧ (ds = [Dyn.mk Ty.str (ByteArray.mk #[109] ++ v3)])))
end
theorem p72_0 (x0 : Int) : runF tab ext72 false 20 [] 2000 [] tys72 Try.f72.results [true] [.code b72] (entE 0 0 sig72 (x0, ())) (entL sig72 (x0, ())) = some ([Dyn.mk Ty.str (ByteArray.mk #[109, 48])], [], [Decidable.decide (x0 ≤ 0) = Bool.true]) := by kernel_rfl
theorem p72_1 (x0 : Int) : Am.runN tab ext72 false 20 [] 2000 [] [] [0, 3] [] [false] [.code b72] (entE 0 0 sig72 (x0, ())) (entL sig72 (x0, ())) = some (cutAt b72 4, E72_4 (ByteArray.mk #[]) (x0), L72_4 (ByteArray.mk #[]) (x0), [Decidable.decide (x0 ≤ 0) = Bool.false]) := by kernel_rfl
theorem p72_2 (v3 : ByteArray) (x0 : Int) : Am.runN tab ext72 false 20 [] 2000 [] [] [0, 3] [] [true] (cutAt b72 4) (E72_4 v3 x0) (L72_4 v3 x0) = some (cutAt b72 4, E72_4 (bytesStr [48 + Int.tmod x0 10] ++ v3) (Int.tdiv x0 10), L72_4 (bytesStr [48 + Int.tmod x0 10] ++ v3) (Int.tdiv x0 10), [Decidable.decide (x0 > 0) = Bool.true, (10 : Int) ≠ (0 : Int), InR IntKind.i64 (Int.tmod x0 10), InR IntKind.i64 (48 + Int.tmod x0 10), InR IntKind.u8 (48 + Int.tmod x0 10), ByteArray.size (bytesStr [48 + Int.tmod x0 10]) + ByteArray.size v3 ≤ 9223372036854775807, (10 : Int) ≠ (0 : Int), InR IntKind.i64 (Int.tdiv x0 10)]) := by kernel_rfl
theorem p72_3 (v3 : ByteArray) (x0 : Int) : runF tab ext72 false 20 [] 2000 [] tys72 Try.f72.results [false] (cutAt b72 4) (E72_4 v3 x0) (L72_4 v3 x0) = some ([Dyn.mk Ty.str (ByteArray.mk #[109] ++ v3)], [], [Decidable.decide (x0 > 0) = Bool.false, 1 + ByteArray.size v3 ≤ 9223372036854775807]) := by kernel_rfl
theorem snd72 : ∀ n, (∀ (x0 : Int) ds, R72 n x0 ds → ∀ w0 O q, AtV Try.prog 72 (PostR ds [] [] q w0 O) 20 w0 O q [] [.code b72] (entE 0 0 sig72 (x0, ())) (entL sig72 (x0, ()))) ∧ (∀ (v3 : ByteArray) (x0 : Int) ds, R72_4 n v3 x0 ds → ∀ w0 O q, AtV Try.prog 72 (PostR ds [] [] q w0 O) 20 w0 O q [] (cutAt b72 4) (E72_4 v3 x0) (L72_4 v3 x0)) := by
  intro n
  induction n with
  | zero => exact ⟨fun _ _ h => by simp only [R72] at h, fun _ _ _ h => by simp only [R72_4] at h⟩
  | succ n ih =>
  obtain ⟨ih, ih4⟩ := ih
  refine ⟨?_, ?_⟩
  · intro x0 ds h w0 O q
    rw [R72] at h
    by_cases b0 : (Decidable.decide (x0 ≤ 0)) = true
    · rw [if_pos b0] at h
      subst h
      exact AtV.fin Try.func72 tabOk ext72Ok mixed (p72_0 x0) ⟨b0, trivial⟩
    · rw [if_neg b0] at h
      replace b0 := Bool.eq_false_iff.2 b0
      exact AtV.runN tabOk ext72Ok mixed (p72_1 x0) ⟨b0, trivial⟩ (ih4 _ _ _ h w0 O q)

  · intro v3 x0 ds h w0 O q
    rw [R72_4] at h
    by_cases b0 : (Decidable.decide (x0 > 0)) = true
    · rw [if_pos b0] at h
      obtain ⟨s0, h⟩ := h
      obtain ⟨s1, h⟩ := h
      obtain ⟨s2, h⟩ := h
      obtain ⟨s3, h⟩ := h
      obtain ⟨s4, h⟩ := h
      exact AtV.runN tabOk ext72Ok mixed (p72_2 v3 x0) ⟨b0, (by decide), s0, s1, s2, s3, (by decide), s4, trivial⟩ (ih4 _ _ _ h w0 O q)
    · rw [if_neg b0] at h
      replace b0 := Bool.eq_false_iff.2 b0
      obtain ⟨s0, h⟩ := h
      subst h
      exact AtV.fin Try.func72 tabOk ext72Ok mixed (p72_3 v3 x0) ⟨b0, s0, trivial⟩



def loop72 : Nat → ByteArray → Int → ByteArray
  | 0, v, _ => v
  | n + 1, v, x => if 0 < x then loop72 n (bytesStr [48 + Int.tmod x 10] ++ v) (Int.tdiv x 10) else v

theorem run72 : ∀ (n : Nat) (v : ByteArray) (x : Int), x < 10 ^ n → InR .i64 x → v.size + n ≤ 1000 → R72_4 (n + 1) v x [⟨.str, ByteArray.mk #[109] ++ loop72 n v x⟩] := by
  intro n
  induction n with
  | zero =>
    intro v x h1 _ h2
    rw [R72_4, if_neg (by simp at h1 ⊢; omega)]
    exact ⟨by omega, rfl⟩
  | succ n ih =>
    intro v x h1 hi h2
    rw [i64_iff] at hi
    rw [R72_4]
    by_cases hx : 0 < x
    · rw [if_pos (by simpa using hx)]
      have e1 : Int.tmod x 10 = x % 10 := Int.tmod_eq_emod_of_nonneg (by omega)
      have e2 : Int.tdiv x 10 = x / 10 := Int.tdiv_eq_ediv_of_nonneg (by omega)
      have hs : (bytesStr [48 + Int.tmod x 10]).size = 1 := bytesStr_size _
      have hp : (10 : Int) ^ (n + 1) = 10 * 10 ^ n := by rw [Int.pow_succ, Int.mul_comm]
      refine ⟨by rw [i64_iff, e1]; omega, by rw [i64_iff, e1]; omega, by rw [u8_iff, e1]; omega, by rw [hs]; omega, by rw [i64_iff, e2]; omega, ?_⟩
      have := ih (bytesStr [48 + Int.tmod x 10] ++ v) (Int.tdiv x 10) (by rw [e2]; omega) (by rw [i64_iff, e2]; omega) (by rw [ByteArray.size_append, hs]; omega)
      simp only [loop72, if_pos hx]
      exact this
    · rw [if_neg (by simp; omega)]
      simp only [loop72, if_neg hx]
      exact ⟨by omega, trivial⟩

def g72_0 (x0 : Int) : ByteArray := if x0 ≤ 0 then ByteArray.mk #[109, 48] else ByteArray.mk #[109] ++ loop72 19 (ByteArray.mk #[]) x0
def P72 (x0 : Int) : Prop := True

theorem top72 (x0 : Int) (hi : InR .i64 x0) : R72 21 x0 [⟨.str, g72_0 x0⟩] := by
  rw [R72]
  unfold g72_0
  by_cases h : x0 ≤ 0
  · rw [if_pos (by simpa using h), if_pos h]
  · rw [if_neg (by simpa using h), if_neg h]
    have hi' := hi
    rw [i64_iff] at hi'
    exact run72 19 _ x0 (by omega) hi (by decide)

def S72 : Am.Spec := { sig := sig72, pre := fun ⟨x0, _⟩ => P72 x0, res := fun ⟨x0, _⟩ => [⟨.str, g72_0 x0⟩] }
theorem con72 : Contract Try.prog 72 S72 := contract_of Try.func72 hb72 (Nat.le_of_ble_eq_true (by kernel_rfl)) (fun ⟨x0, _⟩ h hwf w0 O q =>
  (snd72 _).1 x0 _ (top72 x0 hwf.1) w0 O q)

end Go.Proofs.Ytjkeinpcphkfbaa
