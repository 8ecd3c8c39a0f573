/- Several texts in one: the functions that this law reaches, and their laws. -/
import Derived.Test.YtjkeinpcphkfbaaZ10A
import Derived.Test.YtjkeinpcphkfbaaZ10B
import Derived.Shelf.Strings.Builder1
import Derived.Shelf.Strings.Builder2
import Derived.Shelf.Strconv.Itoa0
import Derived.Shelf.Strings.Search1
import Derived.Shelf.Strings.Search2
import Derived.Shelf.Strings.Search3
import Derived.Shelf.LaysM
import Derived.Shelf.Strings.Shaped
import Derived.Shelf.Strings.Prefix
import Derived.Shelf.Bits.Mul64
import Derived.Lib.SliceRun
import Derived.Laws.AppendOwn
import Derived.WalkKit
import Derived.Deep.LoopGhost
import Derived.Lib.Walk
import Derived.Shelf.RegionOpenPlain
import Derived.Deep.RegionLaw
import Derived.Lib.IndexAny
import Derived.Lib.IndexMore

/- Function 59 (laws.szBlock): its runs between cut points. Written by a program of this repo (gen). -/
set_option linter.unusedVariables false
set_option linter.unusedSimpArgs false
set_option maxRecDepth 100000
namespace Go.Proofs.Ytjkeinpcphkfbaa
open Go Go.Am Go.Proofs
def ext59 : Ext := []
theorem ext59Ok : ExtOk Try.prog ext59 := trivial
/-! Function 59. -/
noncomputable def b59 : Code := bodyOf Try.f59
theorem hb59 : Try.f59.body = some b59 := by kernel_rfl
def sig59 : List AT := [AT.v (Ty.cons Ty.str (Ty.cons Ty.str (Ty.cons Ty.str Ty.unit))), AT.v (Ty.int IntKind.i64)]
def tys59 : List Ty := [Ty.int IntKind.i64]
def P59 (x0 : ByteArray × ByteArray × ByteArray × Unit) (x1 : Int) : Prop := ((InR IntKind.i64 (x1 - (↑(ByteArray.size (Prod.fst x0)) : Int))) ∧ (if (Decidable.decide (x1 - (↑(ByteArray.size (Prod.fst x0)) : Int) < 0)) = true then True else ((InR IntKind.i64 (x1 - (↑(ByteArray.size (Prod.fst x0)) : Int) - (↑(ByteArray.size (Prod.fst (Prod.snd x0))) : Int))) ∧ (if (Decidable.decide (x1 - (↑(ByteArray.size (Prod.fst x0)) : Int) - (↑(ByteArray.size (Prod.fst (Prod.snd x0))) : Int) < 0)) = true then True else ((InR IntKind.i64 (x1 - (↑(ByteArray.size (Prod.fst x0)) : Int) - (↑(ByteArray.size (Prod.fst (Prod.snd x0))) : Int) - (↑(ByteArray.size (Prod.fst (Prod.snd (Prod.snd x0)))) : Int))) ∧ True)))))
def g59_0 (x0 : ByteArray × ByteArray × ByteArray × Unit) (x1 : Int) : Int := (if (Decidable.decide (x1 - (↑(ByteArray.size (Prod.fst x0)) : Int) < 0)) = true then -1 else (if (Decidable.decide (x1 - (↑(ByteArray.size (Prod.fst x0)) : Int) - (↑(ByteArray.size (Prod.fst (Prod.snd x0))) : Int) < 0)) = true then -1 else (if (Decidable.decide (x1 - (↑(ByteArray.size (Prod.fst x0)) : Int) - (↑(ByteArray.size (Prod.fst (Prod.snd x0))) : Int) - (↑(ByteArray.size (Prod.fst (Prod.snd (Prod.snd x0)))) : Int) < 0)) = true then -1 else x1 - (↑(ByteArray.size (Prod.fst x0)) : Int) - (↑(ByteArray.size (Prod.fst (Prod.snd x0))) : Int) - (↑(ByteArray.size (Prod.fst (Prod.snd (Prod.snd x0)))) : Int))))
theorem p59_0 (x0 : ByteArray × ByteArray × ByteArray × Unit) (x1 : Int) : runF tab ext59 false 27 [] 2000 [] tys59 Try.f59.results [true] [.code b59] (entE 0 0 sig59 (x0, x1, ())) (entL sig59 (x0, x1, ())) = some ([Dyn.mk (Ty.int IntKind.i64) (-1)], [], [InR IntKind.i64 (x1 - (↑(ByteArray.size (Prod.fst x0)) : Int)), Decidable.decide (x1 - (↑(ByteArray.size (Prod.fst x0)) : Int) < 0) = Bool.true]) := by kernel_rfl
theorem p59_1 (x0 : ByteArray × ByteArray × ByteArray × Unit) (x1 : Int) : runF tab ext59 false 27 [] 2000 [] tys59 Try.f59.results [false, true] [.code b59] (entE 0 0 sig59 (x0, x1, ())) (entL sig59 (x0, x1, ())) = some ([Dyn.mk (Ty.int IntKind.i64) (-1)], [], [InR IntKind.i64 (x1 - (↑(ByteArray.size (Prod.fst x0)) : Int)), Decidable.decide (x1 - (↑(ByteArray.size (Prod.fst x0)) : Int) < 0) = Bool.false, InR IntKind.i64 (x1 - (↑(ByteArray.size (Prod.fst x0)) : Int) - (↑(ByteArray.size (Prod.fst (Prod.snd x0))) : Int)), Decidable.decide (x1 - (↑(ByteArray.size (Prod.fst x0)) : Int) - (↑(ByteArray.size (Prod.fst (Prod.snd x0))) : Int) < 0) = Bool.true]) := by kernel_rfl
theorem p59_2 (x0 : ByteArray × ByteArray × ByteArray × Unit) (x1 : Int) : runF tab ext59 false 27 [] 2000 [] tys59 Try.f59.results [false, false, true] [.code b59] (entE 0 0 sig59 (x0, x1, ())) (entL sig59 (x0, x1, ())) = some ([Dyn.mk (Ty.int IntKind.i64) (-1)], [], [InR IntKind.i64 (x1 - (↑(ByteArray.size (Prod.fst x0)) : Int)), Decidable.decide (x1 - (↑(ByteArray.size (Prod.fst x0)) : Int) < 0) = Bool.false, InR IntKind.i64 (x1 - (↑(ByteArray.size (Prod.fst x0)) : Int) - (↑(ByteArray.size (Prod.fst (Prod.snd x0))) : Int)), Decidable.decide (x1 - (↑(ByteArray.size (Prod.fst x0)) : Int) - (↑(ByteArray.size (Prod.fst (Prod.snd x0))) : Int) < 0) = Bool.false, InR IntKind.i64 (x1 - (↑(ByteArray.size (Prod.fst x0)) : Int) - (↑(ByteArray.size (Prod.fst (Prod.snd x0))) : Int) - (↑(ByteArray.size (Prod.fst (Prod.snd (Prod.snd x0)))) : Int)), Decidable.decide (x1 - (↑(ByteArray.size (Prod.fst x0)) : Int) - (↑(ByteArray.size (Prod.fst (Prod.snd x0))) : Int) - (↑(ByteArray.size (Prod.fst (Prod.snd (Prod.snd x0)))) : Int) < 0) = Bool.true]) := by kernel_rfl
theorem p59_3 (x0 : ByteArray × ByteArray × ByteArray × Unit) (x1 : Int) : runF tab ext59 false 27 [] 2000 [] tys59 Try.f59.results [false, false, false] [.code b59] (entE 0 0 sig59 (x0, x1, ())) (entL sig59 (x0, x1, ())) = some ([Dyn.mk (Ty.int IntKind.i64) (x1 - (↑(ByteArray.size (Prod.fst x0)) : Int) - (↑(ByteArray.size (Prod.fst (Prod.snd x0))) : Int) - (↑(ByteArray.size (Prod.fst (Prod.snd (Prod.snd x0)))) : Int))], [], [InR IntKind.i64 (x1 - (↑(ByteArray.size (Prod.fst x0)) : Int)), Decidable.decide (x1 - (↑(ByteArray.size (Prod.fst x0)) : Int) < 0) = Bool.false, InR IntKind.i64 (x1 - (↑(ByteArray.size (Prod.fst x0)) : Int) - (↑(ByteArray.size (Prod.fst (Prod.snd x0))) : Int)), Decidable.decide (x1 - (↑(ByteArray.size (Prod.fst x0)) : Int) - (↑(ByteArray.size (Prod.fst (Prod.snd x0))) : Int) < 0) = Bool.false, InR IntKind.i64 (x1 - (↑(ByteArray.size (Prod.fst x0)) : Int) - (↑(ByteArray.size (Prod.fst (Prod.snd x0))) : Int) - (↑(ByteArray.size (Prod.fst (Prod.snd (Prod.snd x0)))) : Int)), Decidable.decide (x1 - (↑(ByteArray.size (Prod.fst x0)) : Int) - (↑(ByteArray.size (Prod.fst (Prod.snd x0))) : Int) - (↑(ByteArray.size (Prod.fst (Prod.snd (Prod.snd x0)))) : Int) < 0) = Bool.false]) := by kernel_rfl
theorem at59 (x0 : ByteArray × ByteArray × ByteArray × Unit) (x1 : Int) (h : P59 x0 x1) (w0 : World) (O : List Nat) (q : Nat → Value) : AtV Try.prog 59 (PostR [⟨Ty.int IntKind.i64, g59_0 x0 x1⟩] [] [] q w0 O) 27 w0 O q [] [.code b59] (entE 0 0 sig59 (x0, x1, ())) (entL sig59 (x0, x1, ())) := by
  unfold P59 at h
  unfold g59_0
  obtain ⟨s0, h⟩ := h
  by_cases b0 : (Decidable.decide (x1 - (↑(ByteArray.size (Prod.fst x0)) : Int) < 0)) = true
  · try simp only [if_pos b0] at h ⊢
    exact AtV.fin Try.func59 tabOk ext59Ok mixed (p59_0 x0 x1) ⟨s0, b0, trivial⟩
  · try simp only [if_neg b0] at h ⊢
    replace b0 := Bool.eq_false_iff.2 b0
    obtain ⟨s1, h⟩ := h
    by_cases b1 : (Decidable.decide (x1 - (↑(ByteArray.size (Prod.fst x0)) : Int) - (↑(ByteArray.size (Prod.fst (Prod.snd x0))) : Int) < 0)) = true
    · try simp only [if_pos b1] at h ⊢
      exact AtV.fin Try.func59 tabOk ext59Ok mixed (p59_1 x0 x1) ⟨s0, b0, s1, b1, trivial⟩
    · try simp only [if_neg b1] at h ⊢
      replace b1 := Bool.eq_false_iff.2 b1
      obtain ⟨s2, h⟩ := h
      by_cases b2 : (Decidable.decide (x1 - (↑(ByteArray.size (Prod.fst x0)) : Int) - (↑(ByteArray.size (Prod.fst (Prod.snd x0))) : Int) - (↑(ByteArray.size (Prod.fst (Prod.snd (Prod.snd x0)))) : Int) < 0)) = true
      · try simp only [if_pos b2] at h ⊢
        exact AtV.fin Try.func59 tabOk ext59Ok mixed (p59_2 x0 x1) ⟨s0, b0, s1, b1, s2, b2, trivial⟩
      · try simp only [if_neg b2] at h ⊢
        replace b2 := Bool.eq_false_iff.2 b2
        exact AtV.fin Try.func59 tabOk ext59Ok mixed (p59_3 x0 x1) ⟨s0, b0, s1, b1, s2, b2, trivial⟩

def S59 : Am.Spec := { sig := sig59, pre := fun ⟨x0, x1, _⟩ => P59 x0 x1, res := fun ⟨x0, x1, _⟩ => [⟨Ty.int IntKind.i64, g59_0 x0 x1⟩] }
theorem con59 : Contract Try.prog 59 S59 := contract_of Try.func59 hb59 (Nat.le_of_ble_eq_true (by kernel_rfl)) (fun ⟨x0, x1, _⟩ h _ w0 O q => at59 x0 x1 h w0 O q)


theorem sz59 (x0 : ByteArray × ByteArray × ByteArray × Unit) (x1 : Int) (h : 0 ≤ x1) (hi : InR .i64 x1) (hw : Wf (.cons .str (.cons .str (.cons .str .unit))) x0) :
    P59 x0 x1 ∧ -1 ≤ g59_0 x0 x1 ∧ g59_0 x0 x1 ≤ x1 := by
  have h1 : x0.1.size ≤ 9223372036854775807 := hw.1
  have h2 : x0.2.1.size ≤ 9223372036854775807 := hw.2.1
  have h3 : x0.2.2.1.size ≤ 9223372036854775807 := hw.2.2.1
  rw [i64_iff] at hi
  unfold P59 g59_0
  simp only [decide_eq_true_eq, i64_iff]
  repeat' (first | apply And.intro | split)
  all_goals first | trivial | omega

end Go.Proofs.Ytjkeinpcphkfbaa

/- Function 34 (laws.szBlockS): its runs between cut points. Written by a program of this repo (gen). -/
set_option linter.unusedVariables false
set_option linter.unusedSimpArgs false
set_option maxRecDepth 100000
namespace Go.Proofs.Ytjkeinpcphkfbaa
open Go Go.Am Go.Proofs
def ext34 : Ext := [(59, S59)]
theorem call34_59 : Callable Try.prog 59 := ⟨Try.f59, Try.func59, by kernel_rfl, by kernel_rfl⟩
theorem ext34Ok : ExtOk Try.prog ext34 := ⟨⟨call34_59, con59⟩, trivial⟩
/-! Function 34. -/
noncomputable def b34 : Code := bodyOf Try.f34
theorem hb34 : Try.f34.body = some b34 := by kernel_rfl
def sig34 : List AT := [AT.v (Ty.sl (Ty.cons Ty.str (Ty.cons Ty.str (Ty.cons Ty.str Ty.unit)))), AT.v (Ty.int IntKind.i64)]
def tys34 : List Ty := [Ty.int IntKind.i64]
def E34_5 (v1 : Int) (v5 : Int) (x0 : List (ByteArray × ByteArray × ByteArray × Unit)) : Env := [(0, PV.a (Atom.sl (Ty.cons Ty.str (Ty.cons Ty.str (Ty.cons Ty.str Ty.unit))) x0)), (1, PV.a (Atom.val (Value.int IntKind.i64 v1))), (5, PV.a (Atom.val (Value.int IntKind.i64 v5)))]
def L34_5 (v1 : Int) (v5 : Int) (x0 : List (ByteArray × ByteArray × ByteArray × Unit)) : Heap := []
mutual
def R34 : Nat → List (ByteArray × ByteArray × ByteArray × Unit) → Int → List Dyn → Prop
  | 0, _, _, _ => False
  | n + 1, x0, x1, ds => ((InR IntKind.i64 (x1 - (↑(List.length x0) : Int))) ∧ (if (Decidable.decide (x1 - (↑(List.length x0) : Int) < 0)) = true then (ds = [Dyn.mk (Ty.int IntKind.i64) (-1)]) else (R34_5 n (x1 - (↑(List.length x0) : Int)) (0) (x0) ds)))
def R34_5 : Nat → Int → Int → List (ByteArray × ByteArray × ByteArray × Unit) → List Dyn → Prop
  | 0, _, _, _, _ => False
  | n + 1, v1, v5, x0, ds => (if (Decidable.decide (v5 < (↑(List.length x0) : Int))) = true then ((0 ≤ v5) ∧ (v5 < (↑(List.length x0) : Int)) ∧ ((P59 (List.getD x0 (Int.toNat v5) (ByteArray.empty, ByteArray.empty, ByteArray.empty, ())) v1) ∧ (if (Decidable.decide (g59_0 (List.getD x0 (Int.toNat v5) (ByteArray.empty, ByteArray.empty, ByteArray.empty, ())) v1 < 0)) = true then (ds = [Dyn.mk (Ty.int IntKind.i64) (-1)]) else ((InR IntKind.i64 (v5 + 1)) ∧ (R34_5 n (g59_0 (List.getD x0 (Int.toNat v5) (ByteArray.empty, ByteArray.empty, ByteArray.empty, ())) v1) (v5 + 1) (x0) ds))))) else (ds = [Dyn.mk (Ty.int IntKind.i64) v1]))
end
theorem p34_0 (x0 : List (ByteArray × ByteArray × ByteArray × Unit)) (x1 : Int) : runF tab ext34 false 27 [] 2000 [] tys34 Try.f34.results [true] [.code b34] (entE 0 0 sig34 (x0, x1, ())) (entL sig34 (x0, x1, ())) = some ([Dyn.mk (Ty.int IntKind.i64) (-1)], [], [InR IntKind.i64 (x1 - (↑(List.length x0) : Int)), Decidable.decide (x1 - (↑(List.length x0) : Int) < 0) = Bool.true]) := by kernel_rfl
theorem p34_1 (x0 : List (ByteArray × ByteArray × ByteArray × Unit)) (x1 : Int) : Am.runN tab ext34 false 27 [] 2000 [] [] [0, 1, 5] [] [false] [.code b34] (entE 0 0 sig34 (x0, x1, ())) (entL sig34 (x0, x1, ())) = some (cutAt b34 5, E34_5 (x1 - (↑(List.length x0) : Int)) (0) (x0), L34_5 (x1 - (↑(List.length x0) : Int)) (0) (x0), [InR IntKind.i64 (x1 - (↑(List.length x0) : Int)), Decidable.decide (x1 - (↑(List.length x0) : Int) < 0) = Bool.false]) := by kernel_rfl
theorem p34_2 (v1 : Int) (v5 : Int) (x0 : List (ByteArray × ByteArray × ByteArray × Unit)) : runF tab ext34 false 27 [] 2000 [] tys34 Try.f34.results [true, true] (cutAt b34 5) (E34_5 v1 v5 x0) (L34_5 v1 v5 x0) = some ([Dyn.mk (Ty.int IntKind.i64) (-1)], [], [Decidable.decide (v5 < (↑(List.length x0) : Int)) = Bool.true, 0 ≤ v5, v5 < (↑(List.length x0) : Int), P59 (List.getD x0 (Int.toNat v5) (ByteArray.empty, ByteArray.empty, ByteArray.empty, ())) v1, Decidable.decide (g59_0 (List.getD x0 (Int.toNat v5) (ByteArray.empty, ByteArray.empty, ByteArray.empty, ())) v1 < 0) = Bool.true]) := by kernel_rfl
theorem p34_3 (v1 : Int) (v5 : Int) (x0 : List (ByteArray × ByteArray × ByteArray × Unit)) : Am.runN tab ext34 false 27 [] 2000 [] [] [0, 1, 5] [] [true, false] (cutAt b34 5) (E34_5 v1 v5 x0) (L34_5 v1 v5 x0) = some (cutAt b34 5, E34_5 (g59_0 (List.getD x0 (Int.toNat v5) (ByteArray.empty, ByteArray.empty, ByteArray.empty, ())) v1) (v5 + 1) (x0), L34_5 (g59_0 (List.getD x0 (Int.toNat v5) (ByteArray.empty, ByteArray.empty, ByteArray.empty, ())) v1) (v5 + 1) (x0), [Decidable.decide (v5 < (↑(List.length x0) : Int)) = Bool.true, 0 ≤ v5, v5 < (↑(List.length x0) : Int), P59 (List.getD x0 (Int.toNat v5) (ByteArray.empty, ByteArray.empty, ByteArray.empty, ())) v1, Decidable.decide (g59_0 (List.getD x0 (Int.toNat v5) (ByteArray.empty, ByteArray.empty, ByteArray.empty, ())) v1 < 0) = Bool.false, InR IntKind.i64 (v5 + 1)]) := by kernel_rfl
theorem p34_4 (v1 : Int) (v5 : Int) (x0 : List (ByteArray × ByteArray × ByteArray × Unit)) : runF tab ext34 false 27 [] 2000 [] tys34 Try.f34.results [false] (cutAt b34 5) (E34_5 v1 v5 x0) (L34_5 v1 v5 x0) = some ([Dyn.mk (Ty.int IntKind.i64) v1], [], [Decidable.decide (v5 < (↑(List.length x0) : Int)) = Bool.false]) := by kernel_rfl
theorem snd34 : ∀ n, (∀ (x0 : List (ByteArray × ByteArray × ByteArray × Unit)) (x1 : Int) ds, R34 n x0 x1 ds → ∀ w0 O q, AtV Try.prog 34 (PostR ds [] [] q w0 O) 27 w0 O q [] [.code b34] (entE 0 0 sig34 (x0, x1, ())) (entL sig34 (x0, x1, ()))) ∧ (∀ (v1 : Int) (v5 : Int) (x0 : List (ByteArray × ByteArray × ByteArray × Unit)) ds, R34_5 n v1 v5 x0 ds → ∀ w0 O q, AtV Try.prog 34 (PostR ds [] [] q w0 O) 27 w0 O q [] (cutAt b34 5) (E34_5 v1 v5 x0) (L34_5 v1 v5 x0)) := by
  intro n
  induction n with
  | zero => exact ⟨fun _ _ _ h => by simp only [R34] at h, fun _ _ _ _ h => by simp only [R34_5] at h⟩
  | succ n ih =>
  obtain ⟨ih, ih5⟩ := ih
  refine ⟨?_, ?_⟩
  · intro x0 x1 ds h w0 O q
    rw [R34] at h
    obtain ⟨s0, h⟩ := h
    by_cases b0 : (Decidable.decide (x1 - (↑(List.length x0) : Int) < 0)) = true
    · rw [if_pos b0] at h
      subst h
      exact AtV.fin Try.func34 tabOk ext34Ok mixed (p34_0 x0 x1) ⟨s0, b0, trivial⟩
    · rw [if_neg b0] at h
      replace b0 := Bool.eq_false_iff.2 b0
      exact AtV.runN tabOk ext34Ok mixed (p34_1 x0 x1) ⟨s0, b0, trivial⟩ (ih5 _ _ _ _ h w0 O q)

  · intro v1 v5 x0 ds h w0 O q
    rw [R34_5] at h
    by_cases b0 : (Decidable.decide (v5 < (↑(List.length x0) : Int))) = true
    · rw [if_pos b0] at h
      obtain ⟨s0, s1, h⟩ := h
      obtain ⟨s2, h⟩ := h
      by_cases b1 : (Decidable.decide (g59_0 (List.getD x0 (Int.toNat v5) (ByteArray.empty, ByteArray.empty, ByteArray.empty, ())) v1 < 0)) = true
      · rw [if_pos b1] at h
        subst h
        exact AtV.fin Try.func34 tabOk ext34Ok mixed (p34_2 v1 v5 x0) ⟨b0, s0, s1, s2, b1, trivial⟩
      · rw [if_neg b1] at h
        replace b1 := Bool.eq_false_iff.2 b1
        obtain ⟨s3, h⟩ := h
        exact AtV.runN tabOk ext34Ok mixed (p34_3 v1 v5 x0) ⟨b0, s0, s1, s2, b1, s3, trivial⟩ (ih5 _ _ _ _ h w0 O q)
    · rw [if_neg b0] at h
      replace b0 := Bool.eq_false_iff.2 b0
      subst h
      exact AtV.fin Try.func34 tabOk ext34Ok mixed (p34_4 v1 v5 x0) ⟨b0, trivial⟩



def szL34 : List (ByteArray × ByteArray × ByteArray × Unit) → Int → Int
  | [], l => l
  | x :: r, l => if g59_0 x l < 0 then -1 else szL34 r (g59_0 x l)

theorem szL34_ok : ∀ (x0 : List (ByteArray × ByteArray × ByteArray × Unit)) (l : Int), 0 ≤ l → InR .i64 l → (∀ x ∈ x0, Wf (.cons .str (.cons .str (.cons .str .unit))) x) → szL34 x0 l ≤ l
  | [], l, _, _, _ => Int.le_refl _
  | x :: r, l, h, hi, hw => by
    obtain ⟨_, h2, h3⟩ := sz59 x l h hi (hw x (List.mem_cons_self ..))
    simp only [szL34]
    rw [i64_iff] at hi
    split
    · omega
    · have := szL34_ok r (g59_0 x l) (by omega) (by rw [i64_iff]; omega) (fun y hy => hw y (List.mem_cons_of_mem _ hy))
      omega

theorem run34 (x0 : List (ByteArray × ByteArray × ByteArray × Unit)) (hm : x0.length ≤ maxLen) (hw : ∀ x ∈ x0, Wf (.cons .str (.cons .str (.cons .str .unit))) x) : ∀ (k i : Nat) (l : Int), i + k = x0.length → 0 ≤ l → InR .i64 l →
    R34_5 (k + 1) l (i : Int) x0 [⟨.int .i64, szL34 (x0.drop i) l⟩] := by
  intro k
  induction k with
  | zero =>
    intro i l hi _ _
    rw [R34_5, if_neg (by simp; omega), drop_end x0 i (by omega)]
    rfl
  | succ k ih =>
    intro i l hi h0 hl
    rw [R34_5, if_pos (by simp; omega)]
    simp only [Int.toNat_natCast]
    have hmem : x0.getD i (ByteArray.empty, ByteArray.empty, ByteArray.empty, ()) ∈ x0 := by rw [getD_lt _ _ _ (by omega)]; exact List.getElem_mem _
    obtain ⟨h1, h2, h3⟩ := sz59 _ l h0 hl (hw _ hmem)
    refine ⟨by omega, by omega, h1, ?_⟩
    rw [drop_get x0 i (ByteArray.empty, ByteArray.empty, ByteArray.empty, ()) (by omega)]
    simp only [szL34]
    have hl' := hl
    rw [i64_iff] at hl'
    by_cases hn : g59_0 (x0.getD i (ByteArray.empty, ByteArray.empty, ByteArray.empty, ())) l < 0
    · rw [if_pos (by simpa using hn), if_pos hn]
    · rw [if_neg (by simpa using hn), if_neg hn]
      exact ⟨inR_up hm (by omega), ih (i + 1) _ (by omega) (by omega) (by rw [i64_iff]; omega)⟩

def g34_0 (x0 : List (ByteArray × ByteArray × ByteArray × Unit)) (x1 : Int) : Int := if x1 - x0.length < 0 then -1 else szL34 x0 (x1 - x0.length)
def P34 (x0 : List (ByteArray × ByteArray × ByteArray × Unit)) (x1 : Int) : Prop := 0 ≤ x1

theorem g34_le (x0 : List (ByteArray × ByteArray × ByteArray × Unit)) (x1 : Int) (h : 0 ≤ x1) (hi : InR .i64 x1) (hw : Wf (.sl (.cons .str (.cons .str (.cons .str .unit)))) x0) (hg : ¬ g34_0 x0 x1 < 0) : g34_0 x0 x1 ≤ x1 - x0.length := by
  unfold g34_0 at hg ⊢
  rw [i64_iff] at hi
  split
  · rename_i h1
    rw [if_pos h1] at hg
    omega
  · exact szL34_ok x0 _ (by omega) (by rw [i64_iff]; omega) hw.2

theorem top34 (x0 : List (ByteArray × ByteArray × ByteArray × Unit)) (x1 : Int) (hw : Wf (.sl (.cons .str (.cons .str (.cons .str .unit)))) x0) (hi : InR .i64 x1) (h : 0 ≤ x1) : R34 (x0.length + 1 + 1) x0 x1 [⟨Ty.int .i64, g34_0 x0 x1⟩] := by
  have hm : x0.length ≤ maxLen := hw.1
  have hm' : x0.length ≤ 9223372036854775807 := hm
  rw [i64_iff] at hi
  rw [R34]
  refine ⟨by rw [i64_iff]; omega, ?_⟩
  unfold g34_0
  by_cases hn : x1 - (x0.length : Int) < 0
  · rw [if_pos (by simpa using hn), if_pos hn]
  · rw [if_neg (by simpa using hn), if_neg hn]
    have := run34 x0 hm hw.2 x0.length 0 (x1 - x0.length) (by omega) (by omega) (by rw [i64_iff]; omega)
    simpa using this

def S34 : Am.Spec := { sig := sig34, pre := fun ⟨x0, x1, _⟩ => P34 x0 x1, res := fun ⟨x0, x1, _⟩ => [⟨Ty.int .i64, g34_0 x0 x1⟩] }
theorem con34 : Contract Try.prog 34 S34 := contract_of Try.func34 hb34 (Nat.le_of_ble_eq_true (by kernel_rfl)) (fun ⟨x0, x1, _⟩ h hwf w0 O q =>
  (snd34 _).1 x0 x1 _ (top34 x0 x1 hwf.1 hwf.2.1 h) w0 O q)

end Go.Proofs.Ytjkeinpcphkfbaa

/- Function 61 (laws.toBlock): its runs between cut points. Written by a program of this repo (gen). -/
set_option linter.unusedVariables false
set_option linter.unusedSimpArgs false
set_option maxRecDepth 100000
namespace Go.Proofs.Ytjkeinpcphkfbaa
open Go Go.Am Go.Proofs
def ext61 : Ext := []
theorem ext61Ok : ExtOk Try.prog ext61 := trivial
/-! Function 61. -/
noncomputable def b61 : Code := bodyOf Try.f61
theorem hb61 : Try.f61.body = some b61 := by kernel_rfl
def sig61 : List AT := [AT.v (Ty.cons Ty.str (Ty.cons Ty.str (Ty.cons Ty.str Ty.unit)))]
def tys61 : List Ty := [Ty.cons Ty.str (Ty.cons Ty.str (Ty.cons Ty.str Ty.unit))]
def P61 (x0 : ByteArray × ByteArray × ByteArray × Unit) : Prop := True
def g61_0 (x0 : ByteArray × ByteArray × ByteArray × Unit) : ByteArray × ByteArray × ByteArray × Unit := (Prod.fst x0, Prod.fst (Prod.snd x0), Prod.fst (Prod.snd (Prod.snd x0)), ())
theorem p61_0 (x0 : ByteArray × ByteArray × ByteArray × Unit) : runF tab ext61 false 14 [] 2000 [] tys61 Try.f61.results [] [.code b61] (entE 0 0 sig61 (x0, ())) (entL sig61 (x0, ())) = some ([Dyn.mk (Ty.cons Ty.str (Ty.cons Ty.str (Ty.cons Ty.str Ty.unit))) (Prod.fst x0, Prod.fst (Prod.snd x0), Prod.fst (Prod.snd (Prod.snd x0)), ())], [], []) := by kernel_rfl
theorem at61 (x0 : ByteArray × ByteArray × ByteArray × Unit) (h : P61 x0) (w0 : World) (O : List Nat) (q : Nat → Value) : AtV Try.prog 61 (PostR [⟨Ty.cons Ty.str (Ty.cons Ty.str (Ty.cons Ty.str Ty.unit)), g61_0 x0⟩] [] [] q w0 O) 14 w0 O q [] [.code b61] (entE 0 0 sig61 (x0, ())) (entL sig61 (x0, ())) := by
  unfold P61 at h
  unfold g61_0
  exact AtV.fin Try.func61 tabOk ext61Ok mixed (p61_0 x0) trivial

def S61 : Am.Spec := { sig := sig61, pre := fun ⟨x0, _⟩ => P61 x0, res := fun ⟨x0, _⟩ => [⟨Ty.cons Ty.str (Ty.cons Ty.str (Ty.cons Ty.str Ty.unit)), g61_0 x0⟩] }
theorem con61 : Contract Try.prog 61 S61 := contract_of Try.func61 hb61 (Nat.le_of_ble_eq_true (by kernel_rfl)) (fun ⟨x0, _⟩ h _ w0 O q => at61 x0 h w0 O q)


end Go.Proofs.Ytjkeinpcphkfbaa

/- Function 36 (laws.toBlockS): its runs between cut points. Written by a program of this repo (gen). -/
set_option linter.unusedVariables false
set_option linter.unusedSimpArgs false
set_option maxRecDepth 100000
namespace Go.Proofs.Ytjkeinpcphkfbaa
open Go Go.Am Go.Proofs
def ext36 : Ext := [(61, S61)]
theorem call36_61 : Callable Try.prog 61 := ⟨Try.f61, Try.func61, by kernel_rfl, by kernel_rfl⟩
theorem ext36Ok : ExtOk Try.prog ext36 := ⟨⟨call36_61, con61⟩, trivial⟩
/-! Function 36. -/
noncomputable def b36 : Code := bodyOf Try.f36
theorem hb36 : Try.f36.body = some b36 := by kernel_rfl
def sig36 : List AT := [AT.v (Ty.sl (Ty.cons Ty.str (Ty.cons Ty.str (Ty.cons Ty.str Ty.unit))))]
def tys36 : List Ty := [Ty.sl (Ty.cons Ty.str (Ty.cons Ty.str (Ty.cons Ty.str Ty.unit)))]
def E36_3 (v4 : Int) (h0 : List (ByteArray × ByteArray × ByteArray × Unit)) (x0 : List (ByteArray × ByteArray × ByteArray × Unit)) : Env := [(0, PV.a (Atom.sl (Ty.cons Ty.str (Ty.cons Ty.str (Ty.cons Ty.str Ty.unit))) x0)), (3, PV.a (Atom.osl 0 Option.none)), (4, PV.a (Atom.val (Value.int IntKind.i64 v4)))]
def L36_3 (v4 : Int) (h0 : List (ByteArray × ByteArray × ByteArray × Unit)) (x0 : List (ByteArray × ByteArray × ByteArray × Unit)) : Heap := [Option.some (Arr.mk (Ty.cons Ty.str (Ty.cons Ty.str (Ty.cons Ty.str Ty.unit))) h0 Bool.false)]
mutual
def R36 : Nat → List (ByteArray × ByteArray × ByteArray × Unit) → List Dyn → Prop
  | 0, _, _ => False
  | n + 1, x0, ds => ((0 ≤ (↑(List.length x0) : Int)) ∧ ((↑(List.length x0) : Int) ≤ (↑(List.length x0) : Int)) ∧ (48 * (↑(List.length x0) : Int) ≤ 281474976710656) ∧ (R36_3 n (0) (List.replicate (Int.toNat (↑(List.length x0) : Int)) (ByteArray.empty, ByteArray.empty, ByteArray.empty, ())) (x0) ds))
def R36_3 : Nat → Int → List (ByteArray × ByteArray × ByteArray × Unit) → List (ByteArray × ByteArray × ByteArray × Unit) → List Dyn → Prop
  | 0, _, _, _, _ => False
  | n + 1, v4, h0, x0, ds => (if (Decidable.decide (v4 < (↑(List.length x0) : Int))) = true then ((0 ≤ v4) ∧ (v4 < (↑(List.length x0) : Int)) ∧ ((0 ≤ v4) ∧ (v4 < (↑(List.length h0) : Int)) ∧ ((InR IntKind.i64 (v4 + 1)) ∧ (R36_3 n (v4 + 1) (List.set h0 (Int.toNat v4) (Prod.fst (List.getD x0 (Int.toNat v4) (ByteArray.empty, ByteArray.empty, ByteArray.empty, ())), Prod.fst (Prod.snd (List.getD x0 (Int.toNat v4) (ByteArray.empty, ByteArray.empty, ByteArray.empty, ()))), Prod.fst (Prod.snd (Prod.snd (List.getD x0 (Int.toNat v4) (ByteArray.empty, ByteArray.empty, ByteArray.empty, ())))), ())) (x0) ds)))) else (ds = [Dyn.mk (Ty.sl (Ty.cons Ty.str (Ty.cons Ty.str (Ty.cons Ty.str Ty.unit)))) h0]))
end
theorem p36_0 (x0 : List (ByteArray × ByteArray × ByteArray × Unit)) : Am.runN tab ext36 false 23 [] 2000 [] [] [0, 3, 4] [true] [] [.code b36] (entE 0 0 sig36 (x0, ())) (entL sig36 (x0, ())) = some (cutAt b36 3, E36_3 (0) (List.replicate (Int.toNat (↑(List.length x0) : Int)) (ByteArray.empty, ByteArray.empty, ByteArray.empty, ())) (x0), L36_3 (0) (List.replicate (Int.toNat (↑(List.length x0) : Int)) (ByteArray.empty, ByteArray.empty, ByteArray.empty, ())) (x0), [0 ≤ (↑(List.length x0) : Int), (↑(List.length x0) : Int) ≤ (↑(List.length x0) : Int), 48 * (↑(List.length x0) : Int) ≤ 281474976710656]) := by kernel_rfl
theorem p36_1 (v4 : Int) (h0 : List (ByteArray × ByteArray × ByteArray × Unit)) (x0 : List (ByteArray × ByteArray × ByteArray × Unit)) : Am.runN tab ext36 false 23 [] 2000 [] [] [0, 3, 4] [true] [true] (cutAt b36 3) (E36_3 v4 h0 x0) (L36_3 v4 h0 x0) = some (cutAt b36 3, E36_3 (v4 + 1) (List.set h0 (Int.toNat v4) (Prod.fst (List.getD x0 (Int.toNat v4) (ByteArray.empty, ByteArray.empty, ByteArray.empty, ())), Prod.fst (Prod.snd (List.getD x0 (Int.toNat v4) (ByteArray.empty, ByteArray.empty, ByteArray.empty, ()))), Prod.fst (Prod.snd (Prod.snd (List.getD x0 (Int.toNat v4) (ByteArray.empty, ByteArray.empty, ByteArray.empty, ())))), ())) (x0), L36_3 (v4 + 1) (List.set h0 (Int.toNat v4) (Prod.fst (List.getD x0 (Int.toNat v4) (ByteArray.empty, ByteArray.empty, ByteArray.empty, ())), Prod.fst (Prod.snd (List.getD x0 (Int.toNat v4) (ByteArray.empty, ByteArray.empty, ByteArray.empty, ()))), Prod.fst (Prod.snd (Prod.snd (List.getD x0 (Int.toNat v4) (ByteArray.empty, ByteArray.empty, ByteArray.empty, ())))), ())) (x0), [Decidable.decide (v4 < (↑(List.length x0) : Int)) = Bool.true, 0 ≤ v4, v4 < (↑(List.length x0) : Int), True, 0 ≤ v4, v4 < (↑(List.length h0) : Int), InR IntKind.i64 (v4 + 1)]) := by kernel_rfl
theorem p36_2 (v4 : Int) (h0 : List (ByteArray × ByteArray × ByteArray × Unit)) (x0 : List (ByteArray × ByteArray × ByteArray × Unit)) : runF tab ext36 false 23 [] 2000 [] tys36 Try.f36.results [false] (cutAt b36 3) (E36_3 v4 h0 x0) (L36_3 v4 h0 x0) = some ([Dyn.mk (Ty.sl (Ty.cons Ty.str (Ty.cons Ty.str (Ty.cons Ty.str Ty.unit)))) h0], [], [Decidable.decide (v4 < (↑(List.length x0) : Int)) = Bool.false]) := by kernel_rfl
theorem snd36 : ∀ n, (∀ (x0 : List (ByteArray × ByteArray × ByteArray × Unit)) ds, R36 n x0 ds → ∀ w0 O q, AtV Try.prog 36 (PostR ds [] [] q w0 O) 23 w0 O q [] [.code b36] (entE 0 0 sig36 (x0, ())) (entL sig36 (x0, ()))) ∧ (∀ (v4 : Int) (h0 : List (ByteArray × ByteArray × ByteArray × Unit)) (x0 : List (ByteArray × ByteArray × ByteArray × Unit)) ds, R36_3 n v4 h0 x0 ds → ∀ w0 O q, AtV Try.prog 36 (PostR ds [] [] q w0 O) 23 w0 O q [] (cutAt b36 3) (E36_3 v4 h0 x0) (L36_3 v4 h0 x0)) := by
  intro n
  induction n with
  | zero => exact ⟨fun _ _ h => by simp only [R36] at h, fun _ _ _ _ h => by simp only [R36_3] at h⟩
  | succ n ih =>
  obtain ⟨ih, ih3⟩ := ih
  refine ⟨?_, ?_⟩
  · intro x0 ds h w0 O q
    rw [R36] at h
    obtain ⟨s0, s1, s2, h⟩ := h
    exact AtV.runN tabOk ext36Ok mixed (p36_0 x0) ⟨s0, s1, s2, trivial⟩ (ih3 _ _ _ _ h w0 O q)

  · intro v4 h0 x0 ds h w0 O q
    rw [R36_3] at h
    by_cases b0 : (Decidable.decide (v4 < (↑(List.length x0) : Int))) = true
    · rw [if_pos b0] at h
      obtain ⟨s0, s1, h⟩ := h
      obtain ⟨s2, s3, h⟩ := h
      obtain ⟨s4, h⟩ := h
      exact AtV.runN tabOk ext36Ok mixed (p36_1 v4 h0 x0) ⟨b0, s0, s1, trivial, s2, s3, s4, trivial⟩ (ih3 _ _ _ _ h w0 O q)
    · rw [if_neg b0] at h
      replace b0 := Bool.eq_false_iff.2 b0
      subst h
      exact AtV.fin Try.func36 tabOk ext36Ok mixed (p36_2 v4 h0 x0) ⟨b0, trivial⟩



theorem run36 (x0 : List (ByteArray × ByteArray × ByteArray × Unit)) (hm : x0.length ≤ maxLen) : ∀ (k i : Nat), i + k = x0.length →
    R36_3 (k + 1) (i : Int) (x0.take i ++ List.replicate k (ByteArray.empty, ByteArray.empty, ByteArray.empty, ())) x0 [⟨.sl (.cons .str (.cons .str (.cons .str .unit))), x0⟩] := by
  intro k
  induction k with
  | zero =>
    intro i hi
    rw [R36_3, if_neg (by simp; omega), List.take_of_length_le (by omega)]
    simp
  | succ k ih =>
    intro i hi
    rw [R36_3, if_pos (by simp; omega)]
    simp only [Int.toNat_natCast]
    refine ⟨by omega, by omega, by omega, by simp; omega, inR_up hm (by omega), ?_⟩
    have hs := set_step x0 (ByteArray.empty, ByteArray.empty, ByteArray.empty, ()) i (by omega) (k + 1) (by omega)
    have he : ∀ y : ByteArray × ByteArray × ByteArray × Unit, (y.1, y.2.1, y.2.2.1, ()) = y := fun _ => rfl
    rw [he, hs]
    exact ih (i + 1) (by omega)

def g36_0 (x0 : List (ByteArray × ByteArray × ByteArray × Unit)) : List (ByteArray × ByteArray × ByteArray × Unit) := x0
def P36 (x0 : List (ByteArray × ByteArray × ByteArray × Unit)) : Prop := 48 * (x0.length : Int) ≤ 281474976710656
def S36 : Am.Spec := { sig := sig36, pre := fun ⟨x0, _⟩ => P36 x0, res := fun ⟨x0, _⟩ => [⟨.sl (.cons .str (.cons .str (.cons .str .unit))), g36_0 x0⟩] }
theorem con36 : Contract Try.prog 36 S36 := contract_of Try.func36 hb36 (Nat.le_of_ble_eq_true (by kernel_rfl)) (fun ⟨x0, _⟩ h hwf w0 O q => by
  refine (snd36 (x0.length + 2)).1 x0 _ ?_ w0 O q
  show R36 (x0.length + 1 + 1) x0 [⟨.sl (.cons .str (.cons .str (.cons .str .unit))), x0⟩]
  rw [R36]
  refine ⟨by omega, by omega, h, ?_⟩
  have := run36 x0 hwf.1.1 x0.length 0 (by omega)
  simpa using this)

end Go.Proofs.Ytjkeinpcphkfbaa

/- Function 153 (spec.l01Small): its runs between cut points. Written by a program of this repo (gen). -/
set_option linter.unusedVariables false
set_option linter.unusedSimpArgs false
set_option maxRecDepth 100000
namespace Go.Proofs.Ytjkeinpcphkfbaa
open Go Go.Am Go.Proofs
def ext153 : Ext := []
theorem ext153Ok : ExtOk Try.prog ext153 := trivial
/-! Function 153. -/
noncomputable def b153 : Code := bodyOf Try.f153
theorem hb153 : Try.f153.body = some b153 := by kernel_rfl
def sig153 : List AT := [AT.v (Ty.int IntKind.u8)]
def tys153 : List Ty := [Ty.bool]
def P153 (x0 : Int) : Prop := True
def g153_0 (x0 : Int) : Bool := (if (Decidable.decide (x0 ≥ 97)) = true then Decidable.decide (x0 ≤ 122) else Bool.false)
theorem p153_0 (x0 : Int) : runF tab ext153 false 9 [] 2000 [] tys153 Try.f153.results [true] [.code b153] (entE 0 0 sig153 (x0, ())) (entL sig153 (x0, ())) = some ([Dyn.mk Ty.bool (Decidable.decide (x0 ≤ 122))], [], [Decidable.decide (x0 ≥ 97) = Bool.true]) := by kernel_rfl
theorem p153_1 (x0 : Int) : runF tab ext153 false 9 [] 2000 [] tys153 Try.f153.results [false] [.code b153] (entE 0 0 sig153 (x0, ())) (entL sig153 (x0, ())) = some ([Dyn.mk Ty.bool Bool.false], [], [Decidable.decide (x0 ≥ 97) = Bool.false]) := by kernel_rfl
theorem at153 (x0 : Int) (h : P153 x0) (w0 : World) (O : List Nat) (q : Nat → Value) : AtV Try.prog 153 (PostR [⟨Ty.bool, g153_0 x0⟩] [] [] q w0 O) 9 w0 O q [] [.code b153] (entE 0 0 sig153 (x0, ())) (entL sig153 (x0, ())) := by
  unfold P153 at h
  unfold g153_0
  by_cases b0 : (Decidable.decide (x0 ≥ 97)) = true
  · try simp only [if_pos b0] at h ⊢
    exact AtV.fin Try.func153 tabOk ext153Ok mixed (p153_0 x0) ⟨b0, trivial⟩
  · try simp only [if_neg b0] at h ⊢
    replace b0 := Bool.eq_false_iff.2 b0
    exact AtV.fin Try.func153 tabOk ext153Ok mixed (p153_1 x0) ⟨b0, trivial⟩

def S153 : Am.Spec := { sig := sig153, pre := fun ⟨x0, _⟩ => P153 x0, res := fun ⟨x0, _⟩ => [⟨Ty.bool, g153_0 x0⟩] }
theorem con153 : Contract Try.prog 153 S153 := contract_of Try.func153 hb153 (Nat.le_of_ble_eq_true (by kernel_rfl)) (fun ⟨x0, _⟩ h _ w0 O q => at153 x0 h w0 O q)


end Go.Proofs.Ytjkeinpcphkfbaa

/- Function 154 (spec.l01Digit): its runs between cut points. Written by a program of this repo (gen). -/
set_option linter.unusedVariables false
set_option linter.unusedSimpArgs false
set_option maxRecDepth 100000
namespace Go.Proofs.Ytjkeinpcphkfbaa
open Go Go.Am Go.Proofs
def ext154 : Ext := []
theorem ext154Ok : ExtOk Try.prog ext154 := trivial
/-! Function 154. -/
noncomputable def b154 : Code := bodyOf Try.f154
theorem hb154 : Try.f154.body = some b154 := by kernel_rfl
def sig154 : List AT := [AT.v (Ty.int IntKind.u8)]
def tys154 : List Ty := [Ty.bool]
def P154 (x0 : Int) : Prop := True
def g154_0 (x0 : Int) : Bool := (if (Decidable.decide (x0 ≥ 48)) = true then Decidable.decide (x0 ≤ 57) else Bool.false)
theorem p154_0 (x0 : Int) : runF tab ext154 false 9 [] 2000 [] tys154 Try.f154.results [true] [.code b154] (entE 0 0 sig154 (x0, ())) (entL sig154 (x0, ())) = some ([Dyn.mk Ty.bool (Decidable.decide (x0 ≤ 57))], [], [Decidable.decide (x0 ≥ 48) = Bool.true]) := by kernel_rfl
theorem p154_1 (x0 : Int) : runF tab ext154 false 9 [] 2000 [] tys154 Try.f154.results [false] [.code b154] (entE 0 0 sig154 (x0, ())) (entL sig154 (x0, ())) = some ([Dyn.mk Ty.bool Bool.false], [], [Decidable.decide (x0 ≥ 48) = Bool.false]) := by kernel_rfl
theorem at154 (x0 : Int) (h : P154 x0) (w0 : World) (O : List Nat) (q : Nat → Value) : AtV Try.prog 154 (PostR [⟨Ty.bool, g154_0 x0⟩] [] [] q w0 O) 9 w0 O q [] [.code b154] (entE 0 0 sig154 (x0, ())) (entL sig154 (x0, ())) := by
  unfold P154 at h
  unfold g154_0
  by_cases b0 : (Decidable.decide (x0 ≥ 48)) = true
  · try simp only [if_pos b0] at h ⊢
    exact AtV.fin Try.func154 tabOk ext154Ok mixed (p154_0 x0) ⟨b0, trivial⟩
  · try simp only [if_neg b0] at h ⊢
    replace b0 := Bool.eq_false_iff.2 b0
    exact AtV.fin Try.func154 tabOk ext154Ok mixed (p154_1 x0) ⟨b0, trivial⟩

def S154 : Am.Spec := { sig := sig154, pre := fun ⟨x0, _⟩ => P154 x0, res := fun ⟨x0, _⟩ => [⟨Ty.bool, g154_0 x0⟩] }
theorem con154 : Contract Try.prog 154 S154 := contract_of Try.func154 hb154 (Nat.le_of_ble_eq_true (by kernel_rfl)) (fun ⟨x0, _⟩ h _ w0 O q => at154 x0 h w0 O q)


end Go.Proofs.Ytjkeinpcphkfbaa

/- Function 131 (spec.l01Name): its runs between cut points. Written by a program of this repo (gen). -/
set_option linter.unusedVariables false
set_option linter.unusedSimpArgs false
set_option maxRecDepth 100000
namespace Go.Proofs.Ytjkeinpcphkfbaa
open Go Go.Am Go.Proofs
def ext131 : Ext := [(153, S153), (154, S154)]
theorem call131_153 : Callable Try.prog 153 := ⟨Try.f153, Try.func153, by kernel_rfl, by kernel_rfl⟩
theorem call131_154 : Callable Try.prog 154 := ⟨Try.f154, Try.func154, by kernel_rfl, by kernel_rfl⟩
theorem ext131Ok : ExtOk Try.prog ext131 := ⟨⟨call131_153, con153⟩, ⟨call131_154, con154⟩, trivial⟩
/-! Function 131. -/
noncomputable def b131 : Code := bodyOf Try.f131
theorem hb131 : Try.f131.body = some b131 := by kernel_rfl
def sig131 : List AT := [AT.v (Ty.str)]
def tys131 : List Ty := [Ty.bool]
def E131_4 (v3 : Int) (x0 : ByteArray) : Env := [(0, PV.a (Atom.val (Value.string x0))), (3, PV.a (Atom.val (Value.int IntKind.i64 v3)))]
def L131_4 (v3 : Int) (x0 : ByteArray) : Heap := []
mutual
def R131 : Nat → ByteArray → List Dyn → Prop
  | 0, _, _ => False
  | n + 1, x0, ds => (if (ByteArray.toList x0 == ByteArray.toList (ByteArray.mk #[])) = true then (ds = [Dyn.mk Ty.bool Bool.false]) else (if (Decidable.decide ((↑(ByteArray.size x0) : Int) > 10)) = true then (ds = [Dyn.mk Ty.bool Bool.false]) else ((0 < (↑(ByteArray.size x0) : Int)) ∧ (if (!g153_0 (↑(UInt8.toNat (List.getD (Array.toList (ByteArray.data x0)) 0 0)) : Int)) = true then (ds = [Dyn.mk Ty.bool Bool.false]) else (R131_4 n (0) (x0) ds)))))
def R131_4 : Nat → Int → ByteArray → List Dyn → Prop
  | 0, _, _, _ => False
  | n + 1, v3, x0, ds => (if (Decidable.decide (v3 < (↑(ByteArray.size x0) : Int))) = true then ((0 ≤ v3) ∧ (v3 < (↑(ByteArray.size x0) : Int)) ∧ (if (!g153_0 (↑(UInt8.toNat (List.getD (Array.toList (ByteArray.data x0)) (Int.toNat v3) 0)) : Int)) = true then ((0 ≤ v3) ∧ (v3 < (↑(ByteArray.size x0) : Int)) ∧ (if (!g154_0 (↑(UInt8.toNat (List.getD (Array.toList (ByteArray.data x0)) (Int.toNat v3) 0)) : Int)) = true then (ds = [Dyn.mk Ty.bool Bool.false]) else ((InR IntKind.i64 (v3 + 1)) ∧ (R131_4 n (v3 + 1) (x0) ds)))) else ((InR IntKind.i64 (v3 + 1)) ∧ (R131_4 n (v3 + 1) (x0) ds)))) else (ds = [Dyn.mk Ty.bool Bool.true]))
end
theorem p131_0 (x0 : ByteArray) : runF tab ext131 false 35 [] 2000 [] tys131 Try.f131.results [true, true, true] [.code b131] (entE 0 0 sig131 (x0, ())) (entL sig131 (x0, ())) = some ([Dyn.mk Ty.bool Bool.false], [], [(ByteArray.toList x0 == ByteArray.toList (ByteArray.mk #[])) = Bool.true, Bool.true = Bool.true, Bool.true = Bool.true]) := by kernel_rfl
theorem p131_1 (x0 : ByteArray) : runF tab ext131 false 35 [] 2000 [] tys131 Try.f131.results [false, true, true] [.code b131] (entE 0 0 sig131 (x0, ())) (entL sig131 (x0, ())) = some ([Dyn.mk Ty.bool Bool.false], [], [(ByteArray.toList x0 == ByteArray.toList (ByteArray.mk #[])) = Bool.false, Decidable.decide ((↑(ByteArray.size x0) : Int) > 10) = Bool.true, Bool.true = Bool.true]) := by kernel_rfl
theorem p131_2 (x0 : ByteArray) : runF tab ext131 false 35 [] 2000 [] tys131 Try.f131.results [false, false, true] [.code b131] (entE 0 0 sig131 (x0, ())) (entL sig131 (x0, ())) = some ([Dyn.mk Ty.bool Bool.false], [], [(ByteArray.toList x0 == ByteArray.toList (ByteArray.mk #[])) = Bool.false, Decidable.decide ((↑(ByteArray.size x0) : Int) > 10) = Bool.false, (0 : Int) ≤ (0 : Int), 0 < (↑(ByteArray.size x0) : Int), True, (!g153_0 (↑(UInt8.toNat (List.getD (Array.toList (ByteArray.data x0)) 0 0)) : Int)) = Bool.true]) := by kernel_rfl
theorem p131_3 (x0 : ByteArray) : Am.runN tab ext131 false 35 [] 2000 [] [] [0, 3] [] [false, false, false] [.code b131] (entE 0 0 sig131 (x0, ())) (entL sig131 (x0, ())) = some (cutAt b131 4, E131_4 (0) (x0), L131_4 (0) (x0), [(ByteArray.toList x0 == ByteArray.toList (ByteArray.mk #[])) = Bool.false, Decidable.decide ((↑(ByteArray.size x0) : Int) > 10) = Bool.false, (0 : Int) ≤ (0 : Int), 0 < (↑(ByteArray.size x0) : Int), True, (!g153_0 (↑(UInt8.toNat (List.getD (Array.toList (ByteArray.data x0)) 0 0)) : Int)) = Bool.false]) := by kernel_rfl
theorem p131_4 (v3 : Int) (x0 : ByteArray) : runF tab ext131 false 35 [] 2000 [] tys131 Try.f131.results [true, true, true] (cutAt b131 4) (E131_4 v3 x0) (L131_4 v3 x0) = some ([Dyn.mk Ty.bool Bool.false], [], [Decidable.decide (v3 < (↑(ByteArray.size x0) : Int)) = Bool.true, 0 ≤ v3, v3 < (↑(ByteArray.size x0) : Int), True, (!g153_0 (↑(UInt8.toNat (List.getD (Array.toList (ByteArray.data x0)) (Int.toNat v3) 0)) : Int)) = Bool.true, 0 ≤ v3, v3 < (↑(ByteArray.size x0) : Int), True, (!g154_0 (↑(UInt8.toNat (List.getD (Array.toList (ByteArray.data x0)) (Int.toNat v3) 0)) : Int)) = Bool.true]) := by kernel_rfl
theorem p131_5 (v3 : Int) (x0 : ByteArray) : Am.runN tab ext131 false 35 [] 2000 [] [] [0, 3] [] [true, true, false] (cutAt b131 4) (E131_4 v3 x0) (L131_4 v3 x0) = some (cutAt b131 4, E131_4 (v3 + 1) (x0), L131_4 (v3 + 1) (x0), [Decidable.decide (v3 < (↑(ByteArray.size x0) : Int)) = Bool.true, 0 ≤ v3, v3 < (↑(ByteArray.size x0) : Int), True, (!g153_0 (↑(UInt8.toNat (List.getD (Array.toList (ByteArray.data x0)) (Int.toNat v3) 0)) : Int)) = Bool.true, 0 ≤ v3, v3 < (↑(ByteArray.size x0) : Int), True, (!g154_0 (↑(UInt8.toNat (List.getD (Array.toList (ByteArray.data x0)) (Int.toNat v3) 0)) : Int)) = Bool.false, InR IntKind.i64 (v3 + 1)]) := by kernel_rfl
theorem p131_6 (v3 : Int) (x0 : ByteArray) : Am.runN tab ext131 false 35 [] 2000 [] [] [0, 3] [] [true, false, false] (cutAt b131 4) (E131_4 v3 x0) (L131_4 v3 x0) = some (cutAt b131 4, E131_4 (v3 + 1) (x0), L131_4 (v3 + 1) (x0), [Decidable.decide (v3 < (↑(ByteArray.size x0) : Int)) = Bool.true, 0 ≤ v3, v3 < (↑(ByteArray.size x0) : Int), True, (!g153_0 (↑(UInt8.toNat (List.getD (Array.toList (ByteArray.data x0)) (Int.toNat v3) 0)) : Int)) = Bool.false, Bool.false = Bool.false, InR IntKind.i64 (v3 + 1)]) := by kernel_rfl
theorem p131_7 (v3 : Int) (x0 : ByteArray) : runF tab ext131 false 35 [] 2000 [] tys131 Try.f131.results [false] (cutAt b131 4) (E131_4 v3 x0) (L131_4 v3 x0) = some ([Dyn.mk Ty.bool Bool.true], [], [Decidable.decide (v3 < (↑(ByteArray.size x0) : Int)) = Bool.false]) := by kernel_rfl
theorem snd131 : ∀ n, (∀ (x0 : ByteArray) ds, R131 n x0 ds → ∀ w0 O q, AtV Try.prog 131 (PostR ds [] [] q w0 O) 35 w0 O q [] [.code b131] (entE 0 0 sig131 (x0, ())) (entL sig131 (x0, ()))) ∧ (∀ (v3 : Int) (x0 : ByteArray) ds, R131_4 n v3 x0 ds → ∀ w0 O q, AtV Try.prog 131 (PostR ds [] [] q w0 O) 35 w0 O q [] (cutAt b131 4) (E131_4 v3 x0) (L131_4 v3 x0)) := by
  intro n
  induction n with
  | zero => exact ⟨fun _ _ h => by simp only [R131] at h, fun _ _ _ h => by simp only [R131_4] at h⟩
  | succ n ih =>
  obtain ⟨ih, ih4⟩ := ih
  refine ⟨?_, ?_⟩
  · intro x0 ds h w0 O q
    rw [R131] at h
    by_cases b0 : (ByteArray.toList x0 == ByteArray.toList (ByteArray.mk #[])) = true
    · rw [if_pos b0] at h
      subst h
      exact AtV.fin Try.func131 tabOk ext131Ok mixed (p131_0 x0) ⟨b0, rfl, rfl, trivial⟩
    · rw [if_neg b0] at h
      replace b0 := Bool.eq_false_iff.2 b0
      by_cases b1 : (Decidable.decide ((↑(ByteArray.size x0) : Int) > 10)) = true
      · rw [if_pos b1] at h
        subst h
        exact AtV.fin Try.func131 tabOk ext131Ok mixed (p131_1 x0) ⟨b0, b1, rfl, trivial⟩
      · rw [if_neg b1] at h
        replace b1 := Bool.eq_false_iff.2 b1
        obtain ⟨s0, h⟩ := h
        by_cases b2 : (!g153_0 (↑(UInt8.toNat (List.getD (Array.toList (ByteArray.data x0)) 0 0)) : Int)) = true
        · rw [if_pos b2] at h
          subst h
          exact AtV.fin Try.func131 tabOk ext131Ok mixed (p131_2 x0) ⟨b0, b1, (by decide), s0, trivial, b2, trivial⟩
        · rw [if_neg b2] at h
          replace b2 := Bool.eq_false_iff.2 b2
          exact AtV.runN tabOk ext131Ok mixed (p131_3 x0) ⟨b0, b1, (by decide), s0, trivial, b2, trivial⟩ (ih4 _ _ _ h w0 O q)

  · intro v3 x0 ds h w0 O q
    rw [R131_4] at h
    by_cases b0 : (Decidable.decide (v3 < (↑(ByteArray.size x0) : Int))) = true
    · rw [if_pos b0] at h
      obtain ⟨s0, s1, h⟩ := h
      by_cases b1 : (!g153_0 (↑(UInt8.toNat (List.getD (Array.toList (ByteArray.data x0)) (Int.toNat v3) 0)) : Int)) = true
      · rw [if_pos b1] at h
        obtain ⟨s2, s3, h⟩ := h
        by_cases b2 : (!g154_0 (↑(UInt8.toNat (List.getD (Array.toList (ByteArray.data x0)) (Int.toNat v3) 0)) : Int)) = true
        · rw [if_pos b2] at h
          subst h
          exact AtV.fin Try.func131 tabOk ext131Ok mixed (p131_4 v3 x0) ⟨b0, s0, s1, trivial, b1, s2, s3, trivial, b2, trivial⟩
        · rw [if_neg b2] at h
          replace b2 := Bool.eq_false_iff.2 b2
          obtain ⟨s4, h⟩ := h
          exact AtV.runN tabOk ext131Ok mixed (p131_5 v3 x0) ⟨b0, s0, s1, trivial, b1, s2, s3, trivial, b2, s4, trivial⟩ (ih4 _ _ _ h w0 O q)
      · rw [if_neg b1] at h
        replace b1 := Bool.eq_false_iff.2 b1
        obtain ⟨s2, h⟩ := h
        exact AtV.runN tabOk ext131Ok mixed (p131_6 v3 x0) ⟨b0, s0, s1, trivial, b1, rfl, s2, trivial⟩ (ih4 _ _ _ h w0 O q)
    · rw [if_neg b0] at h
      replace b0 := Bool.eq_false_iff.2 b0
      subst h
      exact AtV.fin Try.func131 tabOk ext131Ok mixed (p131_7 v3 x0) ⟨b0, trivial⟩



def g131_0 (x0 : ByteArray) : Bool := decide (1 ≤ x0.size) && decide (x0.size ≤ 10) && g153_0 ((bytesOf x0).getD 0 0) && (bytesOf x0).all fun b => g153_0 b || g154_0 b
def P131 (x0 : ByteArray) : Prop := True

theorem top131 (x0 : ByteArray) (hw : Wf .str x0) : R131 (x0.size + 1 + 1) x0 [⟨.bool, g131_0 x0⟩] := by
  have hl := bytesOf_length x0
  rw [R131]
  by_cases h0 : x0 = ByteArray.mk #[]
  · rw [if_pos ((bytes_eq _ _).2 h0)]
    subst h0
    rfl
  · rw [if_neg (fun h => h0 ((bytes_eq _ _).1 h))]
    have hs : 1 ≤ x0.size := by
      rcases Nat.lt_or_ge 0 x0.size with h | h
      · exact h
      · exact absurd (bytesOf_inj (s := x0) (t := ByteArray.mk #[]) (List.eq_nil_of_length_eq_zero (by rw [hl]; omega))) h0
    by_cases h1 : (x0.size : Int) > 10
    · rw [if_pos (by simpa using h1)]
      have : ¬ x0.size ≤ 10 := by omega
      simp [g131_0, this]
    · rw [if_neg (by simpa using h1)]
      refine ⟨by omega, ?_⟩
      rw [byte_get]
      cases h2 : g153_0 ((bytesOf x0).getD 0 0) with
      | false =>
        rw [if_pos (by simp)]
        simp [g131_0, h2, -List.getD_eq_getElem?_getD]
      | true =>
        rw [if_neg (by simp)]
        have key := loop_test (bytesOf x0) 0 (fun b => g153_0 b || g154_0 b) [(⟨.bool, false⟩ : Dyn)] [⟨.bool, true⟩] (fun n i ds => R131_4 n i x0 ds) (fun n => ?_) (fun n i hi hok ds hr => ?_) (fun n i hi hok => ?_)
        · rw [hl] at key
          have e : g131_0 x0 = (bytesOf x0).all fun b => g153_0 b || g154_0 b := by
            have : x0.size ≤ 10 := by omega
            unfold g131_0
            simp only [hs, this, decide_true, Bool.true_and, h2]
          rw [e]
          cases h : (bytesOf x0).all fun b => g153_0 b || g154_0 b with
          | true => rw [if_pos h] at key; exact key
          | false => rw [if_neg (by rw [h]; simp)] at key; exact key
        · show R131_4 (n + 1) ((bytesOf x0).length : Int) x0 _
          rw [R131_4, hl, if_neg (by simp)]
        · rw [R131_4, if_pos (by simp; omega)]
          simp only [Int.toNat_natCast, byte_get]
          generalize (bytesOf x0).getD i 0 = c at *
          refine ⟨by omega, by omega, ?_⟩
          have hu := inR_up (xs := bytesOf x0) (by rw [hl]; exact hw) hi
          cases h3 : g153_0 c with
          | true => rw [if_neg (by simp)]; exact ⟨hu, hr⟩
          | false =>
            rw [if_pos (by simp)]
            rw [h3, Bool.false_or] at hok
            refine ⟨by omega, by omega, ?_⟩
            rw [if_neg (by rw [hok]; simp)]
            exact ⟨hu, hr⟩
        · simp only [Bool.or_eq_false_iff] at hok
          rw [R131_4, if_pos (by simp; omega)]
          simp only [Int.toNat_natCast, byte_get]
          refine ⟨by omega, by omega, ?_⟩
          rw [if_pos (by rw [hok.1]; rfl)]
          refine ⟨by omega, by omega, ?_⟩
          rw [if_pos (by rw [hok.2]; rfl)] <;> trivial

def S131 : Am.Spec := { sig := sig131, pre := fun ⟨x0, _⟩ => P131 x0, res := fun ⟨x0, _⟩ => [⟨Ty.bool, g131_0 x0⟩] }
theorem con131 : Contract Try.prog 131 S131 := contract_of Try.func131 hb131 (Nat.le_of_ble_eq_true (by kernel_rfl)) (fun ⟨x0, _⟩ h hwf w0 O q =>
  (snd131 _).1 x0 _ (top131 x0 hwf.1) w0 O q)

end Go.Proofs.Ytjkeinpcphkfbaa

/- Function 105 (spec.l29One): its runs between cut points. Written by a program of this repo (gen). -/
set_option linter.unusedVariables false
set_option linter.unusedSimpArgs false
set_option maxRecDepth 100000
namespace Go.Proofs.Ytjkeinpcphkfbaa
open Go Go.Am Go.Proofs
def ext105 : Ext := [(131, S131)]
theorem call105_131 : Callable Try.prog 131 := ⟨Try.f131, Try.func131, by kernel_rfl, by kernel_rfl⟩
theorem ext105Ok : ExtOk Try.prog ext105 := ⟨⟨call105_131, con131⟩, trivial⟩
/-! Function 105. -/
noncomputable def b105 : Code := bodyOf Try.f105
theorem hb105 : Try.f105.body = some b105 := by kernel_rfl
def sig105 : List AT := [AT.p (Ty.cons Ty.str (Ty.cons Ty.str (Ty.cons Ty.str Ty.unit)))]
def tys105 : List Ty := [Ty.bool]
def E105_2 (v3 : Int) (x0 : ByteArray × ByteArray × ByteArray × Unit) : Env := [(0, PV.a (Atom.ptr (Ty.cons Ty.str (Ty.cons Ty.str (Ty.cons Ty.str Ty.unit))) x0)), (3, PV.a (Atom.val (Value.int IntKind.i64 v3)))]
def L105_2 (v3 : Int) (x0 : ByteArray × ByteArray × ByteArray × Unit) : Heap := []
mutual
def R105 : Nat → ByteArray × ByteArray × ByteArray × Unit → List Dyn → Prop
  | 0, _, _ => False
  | n + 1, x0, ds => (R105_2 n (0) (x0) ds)
def R105_2 : Nat → Int → ByteArray × ByteArray × ByteArray × Unit → List Dyn → Prop
  | 0, _, _, _ => False
  | n + 1, v3, x0, ds => (if (Decidable.decide (v3 < (↑(ByteArray.size (Prod.fst (Prod.snd (Prod.snd x0)))) : Int))) = true then ((0 ≤ v3) ∧ (v3 < (↑(ByteArray.size (Prod.fst (Prod.snd (Prod.snd x0)))) : Int)) ∧ (if ((↑(UInt8.toNat (List.getD (Array.toList (ByteArray.data (Prod.fst (Prod.snd (Prod.snd x0))))) (Int.toNat v3) 0)) : Int) == 10) = true then (ds = [Dyn.mk Ty.bool Bool.false]) else ((InR IntKind.i64 (v3 + 1)) ∧ (R105_2 n (v3 + 1) (x0) ds)))) else (if (g131_0 (Prod.fst x0)) = true then (if (g131_0 (Prod.fst (Prod.snd x0))) = true then (ds = [Dyn.mk Ty.bool (Decidable.decide ((↑(ByteArray.size (Prod.fst (Prod.snd (Prod.snd x0)))) : Int) ≤ 400))]) else (ds = [Dyn.mk Ty.bool Bool.false])) else (ds = [Dyn.mk Ty.bool Bool.false])))
end
theorem p105_0 (x0 : ByteArray × ByteArray × ByteArray × Unit) : Am.runN tab ext105 false 40 [] 2000 [] [] [0, 3] [] [] [.code b105] (entE 0 0 sig105 (x0, ())) (entL sig105 (x0, ())) = some (cutAt b105 2, E105_2 (0) (x0), L105_2 (0) (x0), []) := by kernel_rfl
theorem p105_1 (v3 : Int) (x0 : ByteArray × ByteArray × ByteArray × Unit) : runF tab ext105 false 40 [] 2000 [] tys105 Try.f105.results [true, true] (cutAt b105 2) (E105_2 v3 x0) (L105_2 v3 x0) = some ([Dyn.mk Ty.bool Bool.false], [], [Decidable.decide (v3 < (↑(ByteArray.size (Prod.fst (Prod.snd (Prod.snd x0)))) : Int)) = Bool.true, 0 ≤ v3, v3 < (↑(ByteArray.size (Prod.fst (Prod.snd (Prod.snd x0)))) : Int), ((↑(UInt8.toNat (List.getD (Array.toList (ByteArray.data (Prod.fst (Prod.snd (Prod.snd x0))))) (Int.toNat v3) 0)) : Int) == 10) = Bool.true]) := by kernel_rfl
theorem p105_2 (v3 : Int) (x0 : ByteArray × ByteArray × ByteArray × Unit) : Am.runN tab ext105 false 40 [] 2000 [] [] [0, 3] [] [true, false] (cutAt b105 2) (E105_2 v3 x0) (L105_2 v3 x0) = some (cutAt b105 2, E105_2 (v3 + 1) (x0), L105_2 (v3 + 1) (x0), [Decidable.decide (v3 < (↑(ByteArray.size (Prod.fst (Prod.snd (Prod.snd x0)))) : Int)) = Bool.true, 0 ≤ v3, v3 < (↑(ByteArray.size (Prod.fst (Prod.snd (Prod.snd x0)))) : Int), ((↑(UInt8.toNat (List.getD (Array.toList (ByteArray.data (Prod.fst (Prod.snd (Prod.snd x0))))) (Int.toNat v3) 0)) : Int) == 10) = Bool.false, InR IntKind.i64 (v3 + 1)]) := by kernel_rfl
theorem p105_3 (v3 : Int) (x0 : ByteArray × ByteArray × ByteArray × Unit) : runF tab ext105 false 40 [] 2000 [] tys105 Try.f105.results [false, true, true] (cutAt b105 2) (E105_2 v3 x0) (L105_2 v3 x0) = some ([Dyn.mk Ty.bool (Decidable.decide ((↑(ByteArray.size (Prod.fst (Prod.snd (Prod.snd x0)))) : Int) ≤ 400))], [], [Decidable.decide (v3 < (↑(ByteArray.size (Prod.fst (Prod.snd (Prod.snd x0)))) : Int)) = Bool.false, True, g131_0 (Prod.fst x0) = Bool.true, True, g131_0 (Prod.fst (Prod.snd x0)) = Bool.true]) := by kernel_rfl
theorem p105_4 (v3 : Int) (x0 : ByteArray × ByteArray × ByteArray × Unit) : runF tab ext105 false 40 [] 2000 [] tys105 Try.f105.results [false, true, false] (cutAt b105 2) (E105_2 v3 x0) (L105_2 v3 x0) = some ([Dyn.mk Ty.bool Bool.false], [], [Decidable.decide (v3 < (↑(ByteArray.size (Prod.fst (Prod.snd (Prod.snd x0)))) : Int)) = Bool.false, True, g131_0 (Prod.fst x0) = Bool.true, True, g131_0 (Prod.fst (Prod.snd x0)) = Bool.false]) := by kernel_rfl
theorem p105_5 (v3 : Int) (x0 : ByteArray × ByteArray × ByteArray × Unit) : runF tab ext105 false 40 [] 2000 [] tys105 Try.f105.results [false, false, false] (cutAt b105 2) (E105_2 v3 x0) (L105_2 v3 x0) = some ([Dyn.mk Ty.bool Bool.false], [], [Decidable.decide (v3 < (↑(ByteArray.size (Prod.fst (Prod.snd (Prod.snd x0)))) : Int)) = Bool.false, True, g131_0 (Prod.fst x0) = Bool.false, Bool.false = Bool.false]) := by kernel_rfl
theorem snd105 : ∀ n, (∀ (x0 : ByteArray × ByteArray × ByteArray × Unit) ds, R105 n x0 ds → ∀ w0 O q, AtV Try.prog 105 (PostR ds [] [] q w0 O) 40 w0 O q [] [.code b105] (entE 0 0 sig105 (x0, ())) (entL sig105 (x0, ()))) ∧ (∀ (v3 : Int) (x0 : ByteArray × ByteArray × ByteArray × Unit) ds, R105_2 n v3 x0 ds → ∀ w0 O q, AtV Try.prog 105 (PostR ds [] [] q w0 O) 40 w0 O q [] (cutAt b105 2) (E105_2 v3 x0) (L105_2 v3 x0)) := by
  intro n
  induction n with
  | zero => exact ⟨fun _ _ h => by simp only [R105] at h, fun _ _ _ h => by simp only [R105_2] at h⟩
  | succ n ih =>
  obtain ⟨ih, ih2⟩ := ih
  refine ⟨?_, ?_⟩
  · intro x0 ds h w0 O q
    rw [R105] at h
    exact AtV.runN tabOk ext105Ok mixed (p105_0 x0) trivial (ih2 _ _ _ h w0 O q)

  · intro v3 x0 ds h w0 O q
    rw [R105_2] at h
    by_cases b0 : (Decidable.decide (v3 < (↑(ByteArray.size (Prod.fst (Prod.snd (Prod.snd x0)))) : Int))) = true
    · rw [if_pos b0] at h
      obtain ⟨s0, s1, h⟩ := h
      by_cases b1 : ((↑(UInt8.toNat (List.getD (Array.toList (ByteArray.data (Prod.fst (Prod.snd (Prod.snd x0))))) (Int.toNat v3) 0)) : Int) == 10) = true
      · rw [if_pos b1] at h
        subst h
        exact AtV.fin Try.func105 tabOk ext105Ok mixed (p105_1 v3 x0) ⟨b0, s0, s1, b1, trivial⟩
      · rw [if_neg b1] at h
        replace b1 := Bool.eq_false_iff.2 b1
        obtain ⟨s2, h⟩ := h
        exact AtV.runN tabOk ext105Ok mixed (p105_2 v3 x0) ⟨b0, s0, s1, b1, s2, trivial⟩ (ih2 _ _ _ h w0 O q)
    · rw [if_neg b0] at h
      replace b0 := Bool.eq_false_iff.2 b0
      by_cases b1 : (g131_0 (Prod.fst x0)) = true
      · rw [if_pos b1] at h
        by_cases b2 : (g131_0 (Prod.fst (Prod.snd x0))) = true
        · rw [if_pos b2] at h
          subst h
          exact AtV.fin Try.func105 tabOk ext105Ok mixed (p105_3 v3 x0) ⟨b0, trivial, b1, trivial, b2, trivial⟩
        · rw [if_neg b2] at h
          replace b2 := Bool.eq_false_iff.2 b2
          subst h
          exact AtV.fin Try.func105 tabOk ext105Ok mixed (p105_4 v3 x0) ⟨b0, trivial, b1, trivial, b2, trivial⟩
      · rw [if_neg b1] at h
        replace b1 := Bool.eq_false_iff.2 b1
        subst h
        exact AtV.fin Try.func105 tabOk ext105Ok mixed (p105_5 v3 x0) ⟨b0, trivial, b1, rfl, trivial⟩



def g105_0 (x0 : ByteArray × ByteArray × ByteArray × Unit) : Bool := (bytesOf x0.2.2.1).all (fun b => !(b == 10)) && g131_0 x0.1 && g131_0 x0.2.1 && decide (x0.2.2.1.size ≤ 400)
def P105 (x0 : ByteArray × ByteArray × ByteArray × Unit) : Prop := True

theorem top105 (x0 : ByteArray × ByteArray × ByteArray × Unit) (hw : Wf (.cons .str (.cons .str (.cons .str .unit))) x0) : R105 (x0.2.2.1.size + 1 + 1) x0 [⟨.bool, g105_0 x0⟩] := by
  have hl := bytesOf_length x0.2.2.1
  have hw3 : Wf .str x0.2.2.1 := hw.2.2.1
  rw [R105]
  have key := loop_test (bytesOf x0.2.2.1) 0 (fun b => !(b == 10)) [(⟨.bool, false⟩ : Dyn)] [⟨.bool, g131_0 x0.1 && g131_0 x0.2.1 && decide (x0.2.2.1.size ≤ 400)⟩] (fun n i ds => R105_2 n i x0 ds) (fun n => ?_) (fun n i hi hok ds hr => ?_) (fun n i hi hok => ?_)
  · rw [hl] at key
    unfold g105_0
    cases h : (bytesOf x0.2.2.1).all fun b => !(b == 10) with
    | true => rw [if_pos h] at key; simpa using key
    | false => rw [if_neg (by rw [h]; simp)] at key; simpa using key
  · show R105_2 (n + 1) ((bytesOf x0.2.2.1).length : Int) x0 _
    rw [R105_2, hl, if_neg (by simp)]
    have hc : decide ((x0.2.2.1.size : Int) ≤ 400) = decide (x0.2.2.1.size ≤ 400) := by
      congr 1; exact propext ⟨fun h => by omega, fun h => by omega⟩
    rw [hc]
    cases g131_0 x0.1 <;> cases g131_0 x0.2.1 <;> simp
  · rw [R105_2, if_pos (by simp; omega)]
    simp only [Int.toNat_natCast, byte_get]
    refine ⟨by omega, by omega, ?_⟩
    rw [if_neg (by intro h; rw [h] at hok; cases hok)]
    exact ⟨inR_up (xs := bytesOf x0.2.2.1) (by rw [hl]; exact hw3) hi, hr⟩
  · rw [R105_2, if_pos (by simp; omega)]
    simp only [Int.toNat_natCast, byte_get]
    refine ⟨by omega, by omega, ?_⟩
    rw [if_pos (by rw [Bool.not_eq_false'] at hok; exact hok)] <;> trivial

def S105 : Am.Spec := { sig := sig105, pre := fun ⟨x0, _⟩ => P105 x0, res := fun ⟨x0, _⟩ => [⟨Ty.bool, g105_0 x0⟩] }
theorem con105 : Contract Try.prog 105 S105 := contract_of Try.func105 hb105 (Nat.le_of_ble_eq_true (by kernel_rfl)) (fun ⟨x0, _⟩ h hwf w0 O q =>
  (snd105 _).1 x0 _ (top105 x0 hwf.1) w0 O q)

end Go.Proofs.Ytjkeinpcphkfbaa

/- Function 115 (spec.l29Before): its runs between cut points. Written by a program of this repo (gen). -/
set_option linter.unusedVariables false
set_option linter.unusedSimpArgs false
set_option maxRecDepth 100000
namespace Go.Proofs.Ytjkeinpcphkfbaa
open Go Go.Am Go.Proofs
def ext115 : Ext := []
theorem ext115Ok : ExtOk Try.prog ext115 := trivial
/-! Function 115. -/
noncomputable def b115 : Code := bodyOf Try.f115
theorem hb115 : Try.f115.body = some b115 := by kernel_rfl
def sig115 : List AT := [AT.p (Ty.cons Ty.str (Ty.cons Ty.str (Ty.cons Ty.str Ty.unit))), AT.p (Ty.cons Ty.str (Ty.cons Ty.str (Ty.cons Ty.str Ty.unit)))]
def tys115 : List Ty := [Ty.bool]
def P115 (x0 : ByteArray × ByteArray × ByteArray × Unit) (x1 : ByteArray × ByteArray × ByteArray × Unit) : Prop := True
def g115_0 (x0 : ByteArray × ByteArray × ByteArray × Unit) (x1 : ByteArray × ByteArray × ByteArray × Unit) : Bool := (if (Op.bytesLess (ByteArray.toList (Prod.fst x0)) (ByteArray.toList (Prod.fst x1))) = true then Bool.true else (if (ByteArray.toList (Prod.fst x0) == ByteArray.toList (Prod.fst x1)) = true then Op.bytesLess (ByteArray.toList (Prod.fst (Prod.snd x0))) (ByteArray.toList (Prod.fst (Prod.snd x1))) else Bool.false))
theorem p115_0 (x0 : ByteArray × ByteArray × ByteArray × Unit) (x1 : ByteArray × ByteArray × ByteArray × Unit) : runF tab ext115 false 36 [] 2000 [] tys115 Try.f115.results [true] [.code b115] (entE 0 0 sig115 (x0, x1, ())) (entL sig115 (x0, x1, ())) = some ([Dyn.mk Ty.bool Bool.true], [], [Op.bytesLess (ByteArray.toList (Prod.fst x0)) (ByteArray.toList (Prod.fst x1)) = Bool.true]) := by kernel_rfl
theorem p115_1 (x0 : ByteArray × ByteArray × ByteArray × Unit) (x1 : ByteArray × ByteArray × ByteArray × Unit) : runF tab ext115 false 36 [] 2000 [] tys115 Try.f115.results [false, true] [.code b115] (entE 0 0 sig115 (x0, x1, ())) (entL sig115 (x0, x1, ())) = some ([Dyn.mk Ty.bool (Op.bytesLess (ByteArray.toList (Prod.fst (Prod.snd x0))) (ByteArray.toList (Prod.fst (Prod.snd x1))))], [], [Op.bytesLess (ByteArray.toList (Prod.fst x0)) (ByteArray.toList (Prod.fst x1)) = Bool.false, (ByteArray.toList (Prod.fst x0) == ByteArray.toList (Prod.fst x1)) = Bool.true]) := by kernel_rfl
theorem p115_2 (x0 : ByteArray × ByteArray × ByteArray × Unit) (x1 : ByteArray × ByteArray × ByteArray × Unit) : runF tab ext115 false 36 [] 2000 [] tys115 Try.f115.results [false, false] [.code b115] (entE 0 0 sig115 (x0, x1, ())) (entL sig115 (x0, x1, ())) = some ([Dyn.mk Ty.bool Bool.false], [], [Op.bytesLess (ByteArray.toList (Prod.fst x0)) (ByteArray.toList (Prod.fst x1)) = Bool.false, (ByteArray.toList (Prod.fst x0) == ByteArray.toList (Prod.fst x1)) = Bool.false]) := by kernel_rfl
theorem at115 (x0 : ByteArray × ByteArray × ByteArray × Unit) (x1 : ByteArray × ByteArray × ByteArray × Unit) (h : P115 x0 x1) (w0 : World) (O : List Nat) (q : Nat → Value) : AtV Try.prog 115 (PostR [⟨Ty.bool, g115_0 x0 x1⟩] [] [] q w0 O) 36 w0 O q [] [.code b115] (entE 0 0 sig115 (x0, x1, ())) (entL sig115 (x0, x1, ())) := by
  unfold P115 at h
  unfold g115_0
  by_cases b0 : (Op.bytesLess (ByteArray.toList (Prod.fst x0)) (ByteArray.toList (Prod.fst x1))) = true
  · try simp only [if_pos b0] at h ⊢
    exact AtV.fin Try.func115 tabOk ext115Ok mixed (p115_0 x0 x1) ⟨b0, trivial⟩
  · try simp only [if_neg b0] at h ⊢
    replace b0 := Bool.eq_false_iff.2 b0
    by_cases b1 : (ByteArray.toList (Prod.fst x0) == ByteArray.toList (Prod.fst x1)) = true
    · try simp only [if_pos b1] at h ⊢
      exact AtV.fin Try.func115 tabOk ext115Ok mixed (p115_1 x0 x1) ⟨b0, b1, trivial⟩
    · try simp only [if_neg b1] at h ⊢
      replace b1 := Bool.eq_false_iff.2 b1
      exact AtV.fin Try.func115 tabOk ext115Ok mixed (p115_2 x0 x1) ⟨b0, b1, trivial⟩

def S115 : Am.Spec := { sig := sig115, pre := fun ⟨x0, x1, _⟩ => P115 x0 x1, res := fun ⟨x0, x1, _⟩ => [⟨Ty.bool, g115_0 x0 x1⟩] }
theorem con115 : Contract Try.prog 115 S115 := contract_of Try.func115 hb115 (Nat.le_of_ble_eq_true (by kernel_rfl)) (fun ⟨x0, x1, _⟩ h _ w0 O q => at115 x0 x1 h w0 O q)


end Go.Proofs.Ytjkeinpcphkfbaa

/- Function 83 (spec.l29Ok): its runs between cut points. Written by a program of this repo (gen). -/
set_option linter.unusedVariables false
set_option linter.unusedSimpArgs false
set_option maxRecDepth 100000
namespace Go.Proofs.Ytjkeinpcphkfbaa
open Go Go.Am Go.Proofs
def ext83 : Ext := [(105, S105), (115, S115)]
theorem call83_105 : Callable Try.prog 105 := ⟨Try.f105, Try.func105, by kernel_rfl, by kernel_rfl⟩
theorem call83_115 : Callable Try.prog 115 := ⟨Try.f115, Try.func115, by kernel_rfl, by kernel_rfl⟩
theorem ext83Ok : ExtOk Try.prog ext83 := ⟨⟨call83_105, con105⟩, ⟨call83_115, con115⟩, trivial⟩
/-! Function 83. -/
noncomputable def b83 : Code := bodyOf Try.f83
theorem hb83 : Try.f83.body = some b83 := by kernel_rfl
def sig83 : List AT := [AT.v (Ty.sl (Ty.cons Ty.str (Ty.cons Ty.str (Ty.cons Ty.str Ty.unit))))]
def tys83 : List Ty := [Ty.bool]
def E83_2 (v3 : Int) (x0 : List (ByteArray × ByteArray × ByteArray × Unit)) : Env := [(0, PV.a (Atom.sl (Ty.cons Ty.str (Ty.cons Ty.str (Ty.cons Ty.str Ty.unit))) x0)), (3, PV.a (Atom.val (Value.int IntKind.i64 v3)))]
def L83_2 (v3 : Int) (x0 : List (ByteArray × ByteArray × ByteArray × Unit)) : Heap := []
mutual
def R83 : Nat → List (ByteArray × ByteArray × ByteArray × Unit) → List Dyn → Prop
  | 0, _, _ => False
  | n + 1, x0, ds => (R83_2 n (0) (x0) ds)
def R83_2 : Nat → Int → List (ByteArray × ByteArray × ByteArray × Unit) → List Dyn → Prop
  | 0, _, _, _ => False
  | n + 1, v3, x0, ds => (if (Decidable.decide (v3 < (↑(List.length x0) : Int))) = true then ((0 ≤ v3) ∧ (v3 < (↑(List.length x0) : Int)) ∧ (if (!g105_0 (List.getD x0 (Int.toNat v3) (ByteArray.empty, ByteArray.empty, ByteArray.empty, ()))) = true then (ds = [Dyn.mk Ty.bool Bool.false]) else (if (Decidable.decide (v3 > 0)) = true then ((InR IntKind.i64 (v3 - 1)) ∧ ((0 ≤ v3 - 1) ∧ (v3 - 1 < (↑(List.length x0) : Int)) ∧ ((0 ≤ v3) ∧ (v3 < (↑(List.length x0) : Int)) ∧ (if (!g115_0 (List.getD x0 (Int.toNat (v3 - 1)) (ByteArray.empty, ByteArray.empty, ByteArray.empty, ())) (List.getD x0 (Int.toNat v3) (ByteArray.empty, ByteArray.empty, ByteArray.empty, ()))) = true then (ds = [Dyn.mk Ty.bool Bool.false]) else ((InR IntKind.i64 (v3 + 1)) ∧ (R83_2 n (v3 + 1) (x0) ds)))))) else ((InR IntKind.i64 (v3 + 1)) ∧ (R83_2 n (v3 + 1) (x0) ds))))) else (ds = [Dyn.mk Ty.bool (Decidable.decide ((↑(List.length x0) : Int) ≤ 32))]))
end
theorem p83_0 (x0 : List (ByteArray × ByteArray × ByteArray × Unit)) : Am.runN tab ext83 false 33 [] 2000 [] [] [0, 3] [] [] [.code b83] (entE 0 0 sig83 (x0, ())) (entL sig83 (x0, ())) = some (cutAt b83 2, E83_2 (0) (x0), L83_2 (0) (x0), []) := by kernel_rfl
theorem p83_1 (v3 : Int) (x0 : List (ByteArray × ByteArray × ByteArray × Unit)) : runF tab ext83 false 33 [] 2000 [] tys83 Try.f83.results [true, true, true] (cutAt b83 2) (E83_2 v3 x0) (L83_2 v3 x0) = some ([Dyn.mk Ty.bool Bool.false], [], [Decidable.decide (v3 < (↑(List.length x0) : Int)) = Bool.true, 0 ≤ v3, v3 < (↑(List.length x0) : Int), True, (!g105_0 (List.getD x0 (Int.toNat v3) (ByteArray.empty, ByteArray.empty, ByteArray.empty, ()))) = Bool.true, Bool.true = Bool.true]) := by kernel_rfl
theorem p83_2 (v3 : Int) (x0 : List (ByteArray × ByteArray × ByteArray × Unit)) : runF tab ext83 false 33 [] 2000 [] tys83 Try.f83.results [true, false, true, true] (cutAt b83 2) (E83_2 v3 x0) (L83_2 v3 x0) = some ([Dyn.mk Ty.bool Bool.false], [], [Decidable.decide (v3 < (↑(List.length x0) : Int)) = Bool.true, 0 ≤ v3, v3 < (↑(List.length x0) : Int), True, (!g105_0 (List.getD x0 (Int.toNat v3) (ByteArray.empty, ByteArray.empty, ByteArray.empty, ()))) = Bool.false, Decidable.decide (v3 > 0) = Bool.true, InR IntKind.i64 (v3 - 1), 0 ≤ v3 - 1, v3 - 1 < (↑(List.length x0) : Int), 0 ≤ v3, v3 < (↑(List.length x0) : Int), True, (!g115_0 (List.getD x0 (Int.toNat (v3 - 1)) (ByteArray.empty, ByteArray.empty, ByteArray.empty, ())) (List.getD x0 (Int.toNat v3) (ByteArray.empty, ByteArray.empty, ByteArray.empty, ()))) = Bool.true]) := by kernel_rfl
theorem p83_3 (v3 : Int) (x0 : List (ByteArray × ByteArray × ByteArray × Unit)) : Am.runN tab ext83 false 33 [] 2000 [] [] [0, 3] [] [true, false, true, false] (cutAt b83 2) (E83_2 v3 x0) (L83_2 v3 x0) = some (cutAt b83 2, E83_2 (v3 + 1) (x0), L83_2 (v3 + 1) (x0), [Decidable.decide (v3 < (↑(List.length x0) : Int)) = Bool.true, 0 ≤ v3, v3 < (↑(List.length x0) : Int), True, (!g105_0 (List.getD x0 (Int.toNat v3) (ByteArray.empty, ByteArray.empty, ByteArray.empty, ()))) = Bool.false, Decidable.decide (v3 > 0) = Bool.true, InR IntKind.i64 (v3 - 1), 0 ≤ v3 - 1, v3 - 1 < (↑(List.length x0) : Int), 0 ≤ v3, v3 < (↑(List.length x0) : Int), True, (!g115_0 (List.getD x0 (Int.toNat (v3 - 1)) (ByteArray.empty, ByteArray.empty, ByteArray.empty, ())) (List.getD x0 (Int.toNat v3) (ByteArray.empty, ByteArray.empty, ByteArray.empty, ()))) = Bool.false, InR IntKind.i64 (v3 + 1)]) := by kernel_rfl
theorem p83_4 (v3 : Int) (x0 : List (ByteArray × ByteArray × ByteArray × Unit)) : Am.runN tab ext83 false 33 [] 2000 [] [] [0, 3] [] [true, false, false, false] (cutAt b83 2) (E83_2 v3 x0) (L83_2 v3 x0) = some (cutAt b83 2, E83_2 (v3 + 1) (x0), L83_2 (v3 + 1) (x0), [Decidable.decide (v3 < (↑(List.length x0) : Int)) = Bool.true, 0 ≤ v3, v3 < (↑(List.length x0) : Int), True, (!g105_0 (List.getD x0 (Int.toNat v3) (ByteArray.empty, ByteArray.empty, ByteArray.empty, ()))) = Bool.false, Decidable.decide (v3 > 0) = Bool.false, Bool.false = Bool.false, InR IntKind.i64 (v3 + 1)]) := by kernel_rfl
theorem p83_5 (v3 : Int) (x0 : List (ByteArray × ByteArray × ByteArray × Unit)) : runF tab ext83 false 33 [] 2000 [] tys83 Try.f83.results [false] (cutAt b83 2) (E83_2 v3 x0) (L83_2 v3 x0) = some ([Dyn.mk Ty.bool (Decidable.decide ((↑(List.length x0) : Int) ≤ 32))], [], [Decidable.decide (v3 < (↑(List.length x0) : Int)) = Bool.false]) := by kernel_rfl
theorem snd83 : ∀ n, (∀ (x0 : List (ByteArray × ByteArray × ByteArray × Unit)) ds, R83 n x0 ds → ∀ w0 O q, AtV Try.prog 83 (PostR ds [] [] q w0 O) 33 w0 O q [] [.code b83] (entE 0 0 sig83 (x0, ())) (entL sig83 (x0, ()))) ∧ (∀ (v3 : Int) (x0 : List (ByteArray × ByteArray × ByteArray × Unit)) ds, R83_2 n v3 x0 ds → ∀ w0 O q, AtV Try.prog 83 (PostR ds [] [] q w0 O) 33 w0 O q [] (cutAt b83 2) (E83_2 v3 x0) (L83_2 v3 x0)) := by
  intro n
  induction n with
  | zero => exact ⟨fun _ _ h => by simp only [R83] at h, fun _ _ _ h => by simp only [R83_2] at h⟩
  | succ n ih =>
  obtain ⟨ih, ih2⟩ := ih
  refine ⟨?_, ?_⟩
  · intro x0 ds h w0 O q
    rw [R83] at h
    exact AtV.runN tabOk ext83Ok mixed (p83_0 x0) trivial (ih2 _ _ _ h w0 O q)

  · intro v3 x0 ds h w0 O q
    rw [R83_2] at h
    by_cases b0 : (Decidable.decide (v3 < (↑(List.length x0) : Int))) = true
    · rw [if_pos b0] at h
      obtain ⟨s0, s1, h⟩ := h
      by_cases b1 : (!g105_0 (List.getD x0 (Int.toNat v3) (ByteArray.empty, ByteArray.empty, ByteArray.empty, ()))) = true
      · rw [if_pos b1] at h
        subst h
        exact AtV.fin Try.func83 tabOk ext83Ok mixed (p83_1 v3 x0) ⟨b0, s0, s1, trivial, b1, rfl, trivial⟩
      · rw [if_neg b1] at h
        replace b1 := Bool.eq_false_iff.2 b1
        by_cases b2 : (Decidable.decide (v3 > 0)) = true
        · rw [if_pos b2] at h
          obtain ⟨s2, h⟩ := h
          obtain ⟨s3, s4, h⟩ := h
          obtain ⟨s5, s6, h⟩ := h
          by_cases b3 : (!g115_0 (List.getD x0 (Int.toNat (v3 - 1)) (ByteArray.empty, ByteArray.empty, ByteArray.empty, ())) (List.getD x0 (Int.toNat v3) (ByteArray.empty, ByteArray.empty, ByteArray.empty, ()))) = true
          · rw [if_pos b3] at h
            subst h
            exact AtV.fin Try.func83 tabOk ext83Ok mixed (p83_2 v3 x0) ⟨b0, s0, s1, trivial, b1, b2, s2, s3, s4, s5, s6, trivial, b3, trivial⟩
          · rw [if_neg b3] at h
            replace b3 := Bool.eq_false_iff.2 b3
            obtain ⟨s7, h⟩ := h
            exact AtV.runN tabOk ext83Ok mixed (p83_3 v3 x0) ⟨b0, s0, s1, trivial, b1, b2, s2, s3, s4, s5, s6, trivial, b3, s7, trivial⟩ (ih2 _ _ _ h w0 O q)
        · rw [if_neg b2] at h
          replace b2 := Bool.eq_false_iff.2 b2
          obtain ⟨s2, h⟩ := h
          exact AtV.runN tabOk ext83Ok mixed (p83_4 v3 x0) ⟨b0, s0, s1, trivial, b1, b2, rfl, s2, trivial⟩ (ih2 _ _ _ h w0 O q)
    · rw [if_neg b0] at h
      replace b0 := Bool.eq_false_iff.2 b0
      subst h
      exact AtV.fin Try.func83 tabOk ext83Ok mixed (p83_5 v3 x0) ⟨b0, trivial⟩



/-- A block at its place. -/
def ok83 (x0 : List (ByteArray × ByteArray × ByteArray × Unit)) (i : Nat) (x : ByteArray × ByteArray × ByteArray × Unit) : Bool :=
  g105_0 x && (i == 0 || g115_0 (x0.getD (i - 1) (ByteArray.empty, ByteArray.empty, ByteArray.empty, ())) x)
def g83_0 (x0 : List (ByteArray × ByteArray × ByteArray × Unit)) : Bool := allI (ok83 x0) 0 x0 && decide (x0.length ≤ 32)
def P83 (x0 : List (ByteArray × ByteArray × ByteArray × Unit)) : Prop := True

theorem step83 (n i : Nat) (x0 : List (ByteArray × ByteArray × ByteArray × Unit)) (hm : x0.length ≤ maxLen) (hi : i < x0.length) (ds : List Dyn) :
    (if ok83 x0 i (x0.getD i (ByteArray.empty, ByteArray.empty, ByteArray.empty, ())) = true then R83_2 n ((i : Int) + 1) x0 ds else ds = [⟨.bool, false⟩]) → R83_2 (n + 1) (i : Int) x0 ds := by
  intro h
  have hu := inR_up hm hi
  rw [R83_2, if_pos (by simp; omega)]
  refine ⟨by omega, by omega, ?_⟩
  simp only [Int.toNat_natCast]
  unfold ok83 at h
  cases h1 : g105_0 (x0.getD i (ByteArray.empty, ByteArray.empty, ByteArray.empty, ())) with
  | false =>
    rw [h1] at h
    rw [if_pos (by rfl)]
    simpa using h
  | true =>
    rw [h1] at h
    rw [if_neg (by simp)]
    by_cases h0 : (i : Int) > 0
    · rw [if_pos (by simpa using h0)]
      have hi0 : (i == 0) = false := by simp; omega
      have e : ((i : Int) - 1).toNat = i - 1 := by omega
      refine ⟨by rw [i64_iff]; have : maxLen ≤ 9223372036854775807 := by decide
                 omega, by omega, by omega, by omega, by omega, ?_⟩
      rw [e]
      by_cases h2 : g115_0 (x0.getD (i - 1) (ByteArray.empty, ByteArray.empty, ByteArray.empty, ())) (x0.getD i (ByteArray.empty, ByteArray.empty, ByteArray.empty, ())) = true
      · rw [h2, hi0] at h
        rw [if_neg (by rw [h2]; simp)]
        exact ⟨hu, by simpa using h⟩
      · have h2 := Bool.eq_false_iff.2 h2
        rw [h2, hi0] at h
        rw [if_pos (by rw [h2]; rfl)]
        simpa using h
    · rw [if_neg (by simpa using h0)]
      have hi0 : (i == 0) = true := by simp; omega
      rw [hi0] at h
      exact ⟨hu, by simpa using h⟩

theorem top83 (x0 : List (ByteArray × ByteArray × ByteArray × Unit)) (hw : x0.length ≤ maxLen) : R83 (x0.length + 1 + 1) x0 [⟨.bool, g83_0 x0⟩] := by
  rw [R83]
  have key := loop_testI x0 (ByteArray.empty, ByteArray.empty, ByteArray.empty, ()) (ok83 x0) [(⟨.bool, false⟩ : Dyn)] [⟨.bool, decide (x0.length ≤ 32)⟩] (fun n i ds => R83_2 n i x0 ds) (fun n => ?_) (fun n i hi hok ds hr => ?_) (fun n i hi hok => ?_)
  · unfold g83_0
    cases h : allI (ok83 x0) 0 x0 with
    | true => rw [if_pos h] at key; simpa using key
    | false => rw [if_neg (by rw [h]; simp)] at key; simpa using key
  · rw [R83_2, if_neg (by simp)]
    have hc : decide ((x0.length : Int) ≤ 32) = decide (x0.length ≤ 32) := by
      congr 1; exact propext ⟨fun h => by omega, fun h => by omega⟩
    rw [hc]
  · exact step83 n i x0 hw hi ds (by rw [if_pos hok]; exact hr)
  · exact step83 n i x0 hw hi _ (by rw [if_neg (by rw [hok]; simp)])

def S83 : Am.Spec := { sig := sig83, pre := fun ⟨x0, _⟩ => P83 x0, res := fun ⟨x0, _⟩ => [⟨Ty.bool, g83_0 x0⟩] }
theorem con83 : Contract Try.prog 83 S83 := contract_of Try.func83 hb83 (Nat.le_of_ble_eq_true (by kernel_rfl)) (fun ⟨x0, _⟩ h hwf w0 O q =>
  (snd83 _).1 x0 _ (top83 x0 hwf.1.1) w0 O q)

end Go.Proofs.Ytjkeinpcphkfbaa

/- Function 93 (spec.l29Find): its runs between cut points. Written by a program of this repo (gen). -/
set_option linter.unusedVariables false
set_option linter.unusedSimpArgs false
set_option maxRecDepth 100000
namespace Go.Proofs.Ytjkeinpcphkfbaa
open Go Go.Am Go.Proofs
def ext93 : Ext := []
theorem ext93Ok : ExtOk Try.prog ext93 := trivial
/-! Function 93. -/
noncomputable def b93 : Code := bodyOf Try.f93
theorem hb93 : Try.f93.body = some b93 := by kernel_rfl
def sig93 : List AT := [AT.v (Ty.sl (Ty.cons Ty.str (Ty.cons Ty.str (Ty.cons Ty.str Ty.unit)))), AT.v (Ty.str), AT.v (Ty.str)]
def tys93 : List Ty := [Ty.int IntKind.i64]
def E93_2 (v7 : Int) (x0 : List (ByteArray × ByteArray × ByteArray × Unit)) (x1 : ByteArray) (x2 : ByteArray) : Env := [(0, PV.a (Atom.sl (Ty.cons Ty.str (Ty.cons Ty.str (Ty.cons Ty.str Ty.unit))) x0)), (1, PV.a (Atom.val (Value.string x1))), (2, PV.a (Atom.val (Value.string x2))), (7, PV.a (Atom.val (Value.int IntKind.i64 v7)))]
def L93_2 (v7 : Int) (x0 : List (ByteArray × ByteArray × ByteArray × Unit)) (x1 : ByteArray) (x2 : ByteArray) : Heap := []
mutual
def R93 : Nat → List (ByteArray × ByteArray × ByteArray × Unit) → ByteArray → ByteArray → List Dyn → Prop
  | 0, _, _, _, _ => False
  | n + 1, x0, x1, x2, ds => (R93_2 n (0) (x0) (x1) (x2) ds)
def R93_2 : Nat → Int → List (ByteArray × ByteArray × ByteArray × Unit) → ByteArray → ByteArray → List Dyn → Prop
  | 0, _, _, _, _, _ => False
  | n + 1, v7, x0, x1, x2, ds => (if (Decidable.decide (v7 < (↑(List.length x0) : Int))) = true then ((0 ≤ v7) ∧ (v7 < (↑(List.length x0) : Int)) ∧ (if (ByteArray.toList (Prod.fst (List.getD x0 (Int.toNat v7) (ByteArray.empty, ByteArray.empty, ByteArray.empty, ()))) == ByteArray.toList x1) = true then ((0 ≤ v7) ∧ (v7 < (↑(List.length x0) : Int)) ∧ (if (ByteArray.toList (Prod.fst (Prod.snd (List.getD x0 (Int.toNat v7) (ByteArray.empty, ByteArray.empty, ByteArray.empty, ())))) == ByteArray.toList x2) = true then (ds = [Dyn.mk (Ty.int IntKind.i64) v7]) else ((InR IntKind.i64 (v7 + 1)) ∧ (R93_2 n (v7 + 1) (x0) (x1) (x2) ds)))) else ((InR IntKind.i64 (v7 + 1)) ∧ (R93_2 n (v7 + 1) (x0) (x1) (x2) ds)))) else (ds = [Dyn.mk (Ty.int IntKind.i64) (-1)]))
end
theorem p93_0 (x0 : List (ByteArray × ByteArray × ByteArray × Unit)) (x1 : ByteArray) (x2 : ByteArray) : Am.runN tab ext93 false 31 [] 2000 [] [] [0, 1, 2, 7] [] [] [.code b93] (entE 0 0 sig93 (x0, x1, x2, ())) (entL sig93 (x0, x1, x2, ())) = some (cutAt b93 2, E93_2 (0) (x0) (x1) (x2), L93_2 (0) (x0) (x1) (x2), []) := by kernel_rfl
theorem p93_1 (v7 : Int) (x0 : List (ByteArray × ByteArray × ByteArray × Unit)) (x1 : ByteArray) (x2 : ByteArray) : runF tab ext93 false 31 [] 2000 [] tys93 Try.f93.results [true, true, true] (cutAt b93 2) (E93_2 v7 x0 x1 x2) (L93_2 v7 x0 x1 x2) = some ([Dyn.mk (Ty.int IntKind.i64) v7], [], [Decidable.decide (v7 < (↑(List.length x0) : Int)) = Bool.true, 0 ≤ v7, v7 < (↑(List.length x0) : Int), (ByteArray.toList (Prod.fst (List.getD x0 (Int.toNat v7) (ByteArray.empty, ByteArray.empty, ByteArray.empty, ()))) == ByteArray.toList x1) = Bool.true, 0 ≤ v7, v7 < (↑(List.length x0) : Int), (ByteArray.toList (Prod.fst (Prod.snd (List.getD x0 (Int.toNat v7) (ByteArray.empty, ByteArray.empty, ByteArray.empty, ())))) == ByteArray.toList x2) = Bool.true]) := by kernel_rfl
theorem p93_2 (v7 : Int) (x0 : List (ByteArray × ByteArray × ByteArray × Unit)) (x1 : ByteArray) (x2 : ByteArray) : Am.runN tab ext93 false 31 [] 2000 [] [] [0, 1, 2, 7] [] [true, true, false] (cutAt b93 2) (E93_2 v7 x0 x1 x2) (L93_2 v7 x0 x1 x2) = some (cutAt b93 2, E93_2 (v7 + 1) (x0) (x1) (x2), L93_2 (v7 + 1) (x0) (x1) (x2), [Decidable.decide (v7 < (↑(List.length x0) : Int)) = Bool.true, 0 ≤ v7, v7 < (↑(List.length x0) : Int), (ByteArray.toList (Prod.fst (List.getD x0 (Int.toNat v7) (ByteArray.empty, ByteArray.empty, ByteArray.empty, ()))) == ByteArray.toList x1) = Bool.true, 0 ≤ v7, v7 < (↑(List.length x0) : Int), (ByteArray.toList (Prod.fst (Prod.snd (List.getD x0 (Int.toNat v7) (ByteArray.empty, ByteArray.empty, ByteArray.empty, ())))) == ByteArray.toList x2) = Bool.false, InR IntKind.i64 (v7 + 1)]) := by kernel_rfl
theorem p93_3 (v7 : Int) (x0 : List (ByteArray × ByteArray × ByteArray × Unit)) (x1 : ByteArray) (x2 : ByteArray) : Am.runN tab ext93 false 31 [] 2000 [] [] [0, 1, 2, 7] [] [true, false, false] (cutAt b93 2) (E93_2 v7 x0 x1 x2) (L93_2 v7 x0 x1 x2) = some (cutAt b93 2, E93_2 (v7 + 1) (x0) (x1) (x2), L93_2 (v7 + 1) (x0) (x1) (x2), [Decidable.decide (v7 < (↑(List.length x0) : Int)) = Bool.true, 0 ≤ v7, v7 < (↑(List.length x0) : Int), (ByteArray.toList (Prod.fst (List.getD x0 (Int.toNat v7) (ByteArray.empty, ByteArray.empty, ByteArray.empty, ()))) == ByteArray.toList x1) = Bool.false, Bool.false = Bool.false, InR IntKind.i64 (v7 + 1)]) := by kernel_rfl
theorem p93_4 (v7 : Int) (x0 : List (ByteArray × ByteArray × ByteArray × Unit)) (x1 : ByteArray) (x2 : ByteArray) : runF tab ext93 false 31 [] 2000 [] tys93 Try.f93.results [false] (cutAt b93 2) (E93_2 v7 x0 x1 x2) (L93_2 v7 x0 x1 x2) = some ([Dyn.mk (Ty.int IntKind.i64) (-1)], [], [Decidable.decide (v7 < (↑(List.length x0) : Int)) = Bool.false]) := by kernel_rfl
theorem snd93 : ∀ n, (∀ (x0 : List (ByteArray × ByteArray × ByteArray × Unit)) (x1 : ByteArray) (x2 : ByteArray) ds, R93 n x0 x1 x2 ds → ∀ w0 O q, AtV Try.prog 93 (PostR ds [] [] q w0 O) 31 w0 O q [] [.code b93] (entE 0 0 sig93 (x0, x1, x2, ())) (entL sig93 (x0, x1, x2, ()))) ∧ (∀ (v7 : Int) (x0 : List (ByteArray × ByteArray × ByteArray × Unit)) (x1 : ByteArray) (x2 : ByteArray) ds, R93_2 n v7 x0 x1 x2 ds → ∀ w0 O q, AtV Try.prog 93 (PostR ds [] [] q w0 O) 31 w0 O q [] (cutAt b93 2) (E93_2 v7 x0 x1 x2) (L93_2 v7 x0 x1 x2)) := by
  intro n
  induction n with
  | zero => exact ⟨fun _ _ _ _ h => by simp only [R93] at h, fun _ _ _ _ _ h => by simp only [R93_2] at h⟩
  | succ n ih =>
  obtain ⟨ih, ih2⟩ := ih
  refine ⟨?_, ?_⟩
  · intro x0 x1 x2 ds h w0 O q
    rw [R93] at h
    exact AtV.runN tabOk ext93Ok mixed (p93_0 x0 x1 x2) trivial (ih2 _ _ _ _ _ h w0 O q)

  · intro v7 x0 x1 x2 ds h w0 O q
    rw [R93_2] at h
    by_cases b0 : (Decidable.decide (v7 < (↑(List.length x0) : Int))) = true
    · rw [if_pos b0] at h
      obtain ⟨s0, s1, h⟩ := h
      by_cases b1 : (ByteArray.toList (Prod.fst (List.getD x0 (Int.toNat v7) (ByteArray.empty, ByteArray.empty, ByteArray.empty, ()))) == ByteArray.toList x1) = true
      · rw [if_pos b1] at h
        obtain ⟨s2, s3, h⟩ := h
        by_cases b2 : (ByteArray.toList (Prod.fst (Prod.snd (List.getD x0 (Int.toNat v7) (ByteArray.empty, ByteArray.empty, ByteArray.empty, ())))) == ByteArray.toList x2) = true
        · rw [if_pos b2] at h
          subst h
          exact AtV.fin Try.func93 tabOk ext93Ok mixed (p93_1 v7 x0 x1 x2) ⟨b0, s0, s1, b1, s2, s3, b2, trivial⟩
        · rw [if_neg b2] at h
          replace b2 := Bool.eq_false_iff.2 b2
          obtain ⟨s4, h⟩ := h
          exact AtV.runN tabOk ext93Ok mixed (p93_2 v7 x0 x1 x2) ⟨b0, s0, s1, b1, s2, s3, b2, s4, trivial⟩ (ih2 _ _ _ _ _ h w0 O q)
      · rw [if_neg b1] at h
        replace b1 := Bool.eq_false_iff.2 b1
        obtain ⟨s2, h⟩ := h
        exact AtV.runN tabOk ext93Ok mixed (p93_3 v7 x0 x1 x2) ⟨b0, s0, s1, b1, rfl, s2, trivial⟩ (ih2 _ _ _ _ _ h w0 O q)
    · rw [if_neg b0] at h
      replace b0 := Bool.eq_false_iff.2 b0
      subst h
      exact AtV.fin Try.func93 tabOk ext93Ok mixed (p93_4 v7 x0 x1 x2) ⟨b0, trivial⟩



def q93 (x1 x2 : ByteArray) (b : (ByteArray × ByteArray × ByteArray × Unit)) : Bool := (ByteArray.toList b.1 == ByteArray.toList x1) && (ByteArray.toList b.2.1 == ByteArray.toList x2)
def g93_0 (x0 : List (ByteArray × ByteArray × ByteArray × Unit)) (x1 x2 : ByteArray) : Int := idx (x0.findIdx? (q93 x1 x2))
def P93 (x0 : List (ByteArray × ByteArray × ByteArray × Unit)) (x1 x2 : ByteArray) : Prop := True

theorem top93 (x0 : List (ByteArray × ByteArray × ByteArray × Unit)) (x1 x2 : ByteArray) (hm : x0.length ≤ maxLen) : R93 (x0.length + 1 + 1) x0 x1 x2 [⟨.int .i64, g93_0 x0 x1 x2⟩] := by
  rw [R93]
  have key := loop_find x0 (ByteArray.empty, ByteArray.empty, ByteArray.empty, ()) (q93 x1 x2) [(⟨.int .i64, -1⟩ : Dyn)] (fun k => [⟨.int .i64, k⟩]) (fun n i ds => R93_2 n i x0 x1 x2 ds) (fun n => ?_) (fun n i hi hok ds hr => ?_) (fun n i hi hok => ?_)
  · unfold g93_0
    cases h : x0.findIdx? (q93 x1 x2) <;> rw [h] at key <;> exact key
  · rw [R93_2, if_neg (by simp)]
  · rw [R93_2, if_pos (by simp; omega)]
    simp only [Int.toNat_natCast]
    unfold q93 at hok
    refine ⟨by omega, by omega, ?_⟩
    by_cases h1 : (ByteArray.toList (x0.getD i (ByteArray.empty, ByteArray.empty, ByteArray.empty, ())).1 == ByteArray.toList x1) = true
    · rw [h1, Bool.true_and] at hok
      rw [if_pos h1]
      refine ⟨by omega, by omega, ?_⟩
      rw [if_neg (by rw [hok]; simp)]
      exact ⟨inR_up hm hi, hr⟩
    · rw [if_neg h1]
      exact ⟨inR_up hm hi, hr⟩
  · rw [R93_2, if_pos (by simp; omega)]
    simp only [Int.toNat_natCast]
    unfold q93 at hok
    simp only [Bool.and_eq_true] at hok
    refine ⟨by omega, by omega, ?_⟩
    rw [if_pos hok.1]
    refine ⟨by omega, by omega, ?_⟩
    rw [if_pos hok.2] <;> trivial

def S93 : Am.Spec := { sig := sig93, pre := fun ⟨x0, x1, x2, _⟩ => P93 x0 x1 x2, res := fun ⟨x0, x1, x2, _⟩ => [⟨Ty.int .i64, g93_0 x0 x1 x2⟩] }
theorem con93 : Contract Try.prog 93 S93 := contract_of Try.func93 hb93 (Nat.le_of_ble_eq_true (by kernel_rfl)) (fun ⟨x0, x1, x2, _⟩ h hwf w0 O q =>
  (snd93 _).1 x0 x1 x2 _ (top93 x0 x1 x2 hwf.1.1) w0 O q)

end Go.Proofs.Ytjkeinpcphkfbaa

/- Function 48 (spec.DropBlock): its runs between cut points. Written by a program of this repo (gen). -/
set_option linter.unusedVariables false
set_option linter.unusedSimpArgs false
set_option maxRecDepth 100000
namespace Go.Proofs.Ytjkeinpcphkfbaa
open Go Go.Am Go.Proofs
def ext48 : Ext := [(83, S83), (93, S93)]
theorem call48_83 : Callable Try.prog 83 := ⟨Try.f83, Try.func83, by kernel_rfl, by kernel_rfl⟩
theorem call48_93 : Callable Try.prog 93 := ⟨Try.f93, Try.func93, by kernel_rfl, by kernel_rfl⟩
theorem ext48Ok : ExtOk Try.prog ext48 := ⟨⟨call48_83, con83⟩, ⟨call48_93, con93⟩, trivial⟩
/-! Function 48. -/
noncomputable def b48 : Code := bodyOf Try.f48
theorem hb48 : Try.f48.body = some b48 := by kernel_rfl
def sig48 : List AT := [AT.v (Ty.sl (Ty.cons Ty.str (Ty.cons Ty.str (Ty.cons Ty.str Ty.unit)))), AT.v (Ty.str), AT.v (Ty.str)]
def tys48 : List Ty := [Ty.sl (Ty.cons Ty.str (Ty.cons Ty.str (Ty.cons Ty.str Ty.unit))), Ty.int IntKind.i64]
def P48 (x0 : List (ByteArray × ByteArray × ByteArray × Unit)) (x1 : ByteArray) (x2 : ByteArray) : Prop := (if (!g83_0 x0) = true then True else (if (Decidable.decide (g93_0 x0 x1 x2 < 0)) = true then True else ((0 ≤ g93_0 x0 x1 x2) ∧ (g93_0 x0 x1 x2 ≤ (↑(List.length x0) : Int)) ∧ (((0 + List.length (List.take (Int.toNat (g93_0 x0 x1 x2)) x0)) * 48 ≤ 140737488355328) ∧ ((InR IntKind.i64 (g93_0 x0 x1 x2 + 1)) ∧ ((0 ≤ g93_0 x0 x1 x2 + 1) ∧ (g93_0 x0 x1 x2 + 1 ≤ (↑(List.length x0) : Int)) ∧ (((List.length ([] ++ List.take (Int.toNat (g93_0 x0 x1 x2)) x0) + List.length (List.drop (Int.toNat (g93_0 x0 x1 x2 + 1)) x0)) * 48 ≤ 140737488355328) ∧ True)))))))
def g48_0 (x0 : List (ByteArray × ByteArray × ByteArray × Unit)) (x1 : ByteArray) (x2 : ByteArray) : List (ByteArray × ByteArray × ByteArray × Unit) := (if (!g83_0 x0) = true then [] else (if (Decidable.decide (g93_0 x0 x1 x2 < 0)) = true then [] else [] ++ List.take (Int.toNat (g93_0 x0 x1 x2)) x0 ++ List.drop (Int.toNat (g93_0 x0 x1 x2 + 1)) x0))
def g48_1 (x0 : List (ByteArray × ByteArray × ByteArray × Unit)) (x1 : ByteArray) (x2 : ByteArray) : Int := (if (!g83_0 x0) = true then 1 else (if (Decidable.decide (g93_0 x0 x1 x2 < 0)) = true then 3 else 0))
theorem p48_0 (x0 : List (ByteArray × ByteArray × ByteArray × Unit)) (x1 : ByteArray) (x2 : ByteArray) : runF tab ext48 false 30 [] 2000 [] tys48 Try.f48.results [true] [.code b48] (entE 0 0 sig48 (x0, x1, x2, ())) (entL sig48 (x0, x1, x2, ())) = some ([Dyn.mk (Ty.sl (Ty.cons Ty.str (Ty.cons Ty.str (Ty.cons Ty.str Ty.unit)))) [], Dyn.mk (Ty.int IntKind.i64) 1], [], [True, (!g83_0 x0) = Bool.true]) := by kernel_rfl
theorem p48_1 (x0 : List (ByteArray × ByteArray × ByteArray × Unit)) (x1 : ByteArray) (x2 : ByteArray) : runF tab ext48 false 30 [] 2000 [] tys48 Try.f48.results [false, true] [.code b48] (entE 0 0 sig48 (x0, x1, x2, ())) (entL sig48 (x0, x1, x2, ())) = some ([Dyn.mk (Ty.sl (Ty.cons Ty.str (Ty.cons Ty.str (Ty.cons Ty.str Ty.unit)))) [], Dyn.mk (Ty.int IntKind.i64) 3], [], [True, (!g83_0 x0) = Bool.false, True, Decidable.decide (g93_0 x0 x1 x2 < 0) = Bool.true]) := by kernel_rfl
theorem p48_2 (x0 : List (ByteArray × ByteArray × ByteArray × Unit)) (x1 : ByteArray) (x2 : ByteArray) : runF tab ext48 false 30 [] 2000 [] tys48 Try.f48.results [false, false] [.code b48] (entE 0 0 sig48 (x0, x1, x2, ())) (entL sig48 (x0, x1, x2, ())) = some ([Dyn.mk (Ty.sl (Ty.cons Ty.str (Ty.cons Ty.str (Ty.cons Ty.str Ty.unit)))) ([] ++ List.take (Int.toNat (g93_0 x0 x1 x2)) x0 ++ List.drop (Int.toNat (g93_0 x0 x1 x2 + 1)) x0), Dyn.mk (Ty.int IntKind.i64) 0], [], [True, (!g83_0 x0) = Bool.false, True, Decidable.decide (g93_0 x0 x1 x2 < 0) = Bool.false, 0 ≤ g93_0 x0 x1 x2, g93_0 x0 x1 x2 ≤ (↑(List.length x0) : Int), (0 + List.length (List.take (Int.toNat (g93_0 x0 x1 x2)) x0)) * 48 ≤ 140737488355328, InR IntKind.i64 (g93_0 x0 x1 x2 + 1), 0 ≤ g93_0 x0 x1 x2 + 1, g93_0 x0 x1 x2 + 1 ≤ (↑(List.length x0) : Int), (List.length ([] ++ List.take (Int.toNat (g93_0 x0 x1 x2)) x0) + List.length (List.drop (Int.toNat (g93_0 x0 x1 x2 + 1)) x0)) * 48 ≤ 140737488355328]) := by kernel_rfl
theorem at48 (x0 : List (ByteArray × ByteArray × ByteArray × Unit)) (x1 : ByteArray) (x2 : ByteArray) (h : P48 x0 x1 x2) (w0 : World) (O : List Nat) (q : Nat → Value) : AtV Try.prog 48 (PostR [⟨Ty.sl (Ty.cons Ty.str (Ty.cons Ty.str (Ty.cons Ty.str Ty.unit))), g48_0 x0 x1 x2⟩, ⟨Ty.int IntKind.i64, g48_1 x0 x1 x2⟩] [] [] q w0 O) 30 w0 O q [] [.code b48] (entE 0 0 sig48 (x0, x1, x2, ())) (entL sig48 (x0, x1, x2, ())) := by
  unfold P48 at h
  unfold g48_0 g48_1
  by_cases b0 : (!g83_0 x0) = true
  · try simp only [if_pos b0] at h ⊢
    exact AtV.fin Try.func48 tabOk ext48Ok mixed (p48_0 x0 x1 x2) ⟨trivial, b0, trivial⟩
  · try simp only [if_neg b0] at h ⊢
    replace b0 := Bool.eq_false_iff.2 b0
    by_cases b1 : (Decidable.decide (g93_0 x0 x1 x2 < 0)) = true
    · try simp only [if_pos b1] at h ⊢
      exact AtV.fin Try.func48 tabOk ext48Ok mixed (p48_1 x0 x1 x2) ⟨trivial, b0, trivial, b1, trivial⟩
    · try simp only [if_neg b1] at h ⊢
      replace b1 := Bool.eq_false_iff.2 b1
      obtain ⟨s0, s1, h⟩ := h
      obtain ⟨s2, h⟩ := h
      obtain ⟨s3, h⟩ := h
      obtain ⟨s4, s5, h⟩ := h
      obtain ⟨s6, h⟩ := h
      exact AtV.fin Try.func48 tabOk ext48Ok mixed (p48_2 x0 x1 x2) ⟨trivial, b0, trivial, b1, s0, s1, s2, s3, s4, s5, s6, trivial⟩

def S48 : Am.Spec := { sig := sig48, pre := fun ⟨x0, x1, x2, _⟩ => P48 x0 x1 x2, res := fun ⟨x0, x1, x2, _⟩ => [⟨Ty.sl (Ty.cons Ty.str (Ty.cons Ty.str (Ty.cons Ty.str Ty.unit))), g48_0 x0 x1 x2⟩, ⟨Ty.int IntKind.i64, g48_1 x0 x1 x2⟩] }
theorem con48 : Contract Try.prog 48 S48 := contract_of Try.func48 hb48 (Nat.le_of_ble_eq_true (by kernel_rfl)) (fun ⟨x0, x1, x2, _⟩ h _ w0 O q => at48 x0 x1 x2 h w0 O q)


end Go.Proofs.Ytjkeinpcphkfbaa

/- Function 116 (impl.IsName): its runs between cut points. Written by a program of this repo (gen). -/
set_option linter.unusedVariables false
set_option linter.unusedSimpArgs false
set_option maxRecDepth 100000
namespace Go.Proofs.Ytjkeinpcphkfbaa
open Go Go.Am Go.Proofs
def ext116 : Ext := []
theorem ext116Ok : ExtOk Try.prog ext116 := trivial
/-! Function 116. -/
noncomputable def b116 : Code := bodyOf Try.f116
theorem hb116 : Try.f116.body = some b116 := by kernel_rfl
def sig116 : List AT := [AT.v (Ty.str)]
def tys116 : List Ty := [Ty.bool]
def E116_4 (v18 : Int) (x0 : ByteArray) : Env := [(16, PV.a (Atom.osl 0 Option.none)), (17, PV.a (Atom.val (Value.int IntKind.i64 (↑(List.length (bytesOf x0)) : Int)))), (18, PV.a (Atom.val (Value.int IntKind.i64 v18)))]
def L116_4 (v18 : Int) (x0 : ByteArray) : Heap := [Option.some (Arr.mk (Ty.int IntKind.u8) (bytesOf x0) Bool.false)]
mutual
def R116 : Nat → ByteArray → List Dyn → Prop
  | 0, _, _ => False
  | n + 1, x0, ds => (if (Decidable.decide ((↑(ByteArray.size x0) : Int) < 1)) = true then (ds = [Dyn.mk Ty.bool Bool.false]) else (if (Decidable.decide ((↑(ByteArray.size x0) : Int) > 10)) = true then (ds = [Dyn.mk Ty.bool Bool.false]) else (R116_4 n (0) (x0) ds)))
def R116_4 : Nat → Int → ByteArray → List Dyn → Prop
  | 0, _, _, _ => False
  | n + 1, v18, x0, ds => (if (Decidable.decide (v18 < (↑(List.length (bytesOf x0)) : Int))) = true then ((0 ≤ v18) ∧ (v18 < (↑(List.length (bytesOf x0)) : Int)) ∧ (if (Decidable.decide (List.getD (bytesOf x0) (Int.toNat v18) 0 ≥ 97)) = true then (if (Decidable.decide (List.getD (bytesOf x0) (Int.toNat v18) 0 ≥ 48)) = true then (if (!Decidable.decide (List.getD (bytesOf x0) (Int.toNat v18) 0 ≤ 122)) = true then (if (v18 == 0) = true then (ds = [Dyn.mk Ty.bool Bool.false]) else (if (!Decidable.decide (List.getD (bytesOf x0) (Int.toNat v18) 0 ≤ 57)) = true then (ds = [Dyn.mk Ty.bool Bool.false]) else ((InR IntKind.i64 (v18 + 1)) ∧ (R116_4 n (v18 + 1) (x0) ds)))) else ((InR IntKind.i64 (v18 + 1)) ∧ (R116_4 n (v18 + 1) (x0) ds))) else (if (!Decidable.decide (List.getD (bytesOf x0) (Int.toNat v18) 0 ≤ 122)) = true then (if (v18 == 0) = true then (ds = [Dyn.mk Ty.bool Bool.false]) else (ds = [Dyn.mk Ty.bool Bool.false])) else ((InR IntKind.i64 (v18 + 1)) ∧ (R116_4 n (v18 + 1) (x0) ds)))) else (if (Decidable.decide (List.getD (bytesOf x0) (Int.toNat v18) 0 ≥ 48)) = true then (if (v18 == 0) = true then (ds = [Dyn.mk Ty.bool Bool.false]) else (if (!Decidable.decide (List.getD (bytesOf x0) (Int.toNat v18) 0 ≤ 57)) = true then (ds = [Dyn.mk Ty.bool Bool.false]) else ((InR IntKind.i64 (v18 + 1)) ∧ (R116_4 n (v18 + 1) (x0) ds)))) else (if (v18 == 0) = true then (ds = [Dyn.mk Ty.bool Bool.false]) else (ds = [Dyn.mk Ty.bool Bool.false]))))) else (ds = [Dyn.mk Ty.bool Bool.true]))
end
theorem p116_0 (x0 : ByteArray) : runF tab ext116 false 46 [] 2000 [] tys116 Try.f116.results [true, true] [.code b116] (entE 0 0 sig116 (x0, ())) (entL sig116 (x0, ())) = some ([Dyn.mk Ty.bool Bool.false], [], [Decidable.decide ((↑(ByteArray.size x0) : Int) < 1) = Bool.true, Bool.true = Bool.true]) := by kernel_rfl
theorem p116_1 (x0 : ByteArray) : runF tab ext116 false 46 [] 2000 [] tys116 Try.f116.results [false, true] [.code b116] (entE 0 0 sig116 (x0, ())) (entL sig116 (x0, ())) = some ([Dyn.mk Ty.bool Bool.false], [], [Decidable.decide ((↑(ByteArray.size x0) : Int) < 1) = Bool.false, Decidable.decide ((↑(ByteArray.size x0) : Int) > 10) = Bool.true]) := by kernel_rfl
theorem p116_2 (x0 : ByteArray) : Am.runN tab ext116 false 46 [] 2000 [] [] [16, 17, 18] [true] [false, false] [.code b116] (entE 0 0 sig116 (x0, ())) (entL sig116 (x0, ())) = some (cutAt b116 4, E116_4 (0) (x0), L116_4 (0) (x0), [Decidable.decide ((↑(ByteArray.size x0) : Int) < 1) = Bool.false, Decidable.decide ((↑(ByteArray.size x0) : Int) > 10) = Bool.false]) := by kernel_rfl
theorem p116_3 (v18 : Int) (x0 : ByteArray) : runF tab ext116 false 46 [] 2000 [] tys116 Try.f116.results [true, true, true, true, true, true] (cutAt b116 4) (E116_4 v18 x0) (L116_4 v18 x0) = some ([Dyn.mk Ty.bool Bool.false], [], [Decidable.decide (v18 < (↑(List.length (bytesOf x0)) : Int)) = Bool.true, 0 ≤ v18, v18 < (↑(List.length (bytesOf x0)) : Int), Decidable.decide (List.getD (bytesOf x0) (Int.toNat v18) 0 ≥ 97) = Bool.true, Decidable.decide (List.getD (bytesOf x0) (Int.toNat v18) 0 ≥ 48) = Bool.true, (!Decidable.decide (List.getD (bytesOf x0) (Int.toNat v18) 0 ≤ 122)) = Bool.true, (v18 == 0) = Bool.true, Bool.true = Bool.true]) := by kernel_rfl
theorem p116_4 (v18 : Int) (x0 : ByteArray) : runF tab ext116 false 46 [] 2000 [] tys116 Try.f116.results [true, true, true, true, false, true] (cutAt b116 4) (E116_4 v18 x0) (L116_4 v18 x0) = some ([Dyn.mk Ty.bool Bool.false], [], [Decidable.decide (v18 < (↑(List.length (bytesOf x0)) : Int)) = Bool.true, 0 ≤ v18, v18 < (↑(List.length (bytesOf x0)) : Int), Decidable.decide (List.getD (bytesOf x0) (Int.toNat v18) 0 ≥ 97) = Bool.true, Decidable.decide (List.getD (bytesOf x0) (Int.toNat v18) 0 ≥ 48) = Bool.true, (!Decidable.decide (List.getD (bytesOf x0) (Int.toNat v18) 0 ≤ 122)) = Bool.true, (v18 == 0) = Bool.false, (!Decidable.decide (List.getD (bytesOf x0) (Int.toNat v18) 0 ≤ 57)) = Bool.true]) := by kernel_rfl
theorem p116_5 (v18 : Int) (x0 : ByteArray) : Am.runN tab ext116 false 46 [] 2000 [] [] [16, 17, 18] [true] [true, true, true, true, false, false] (cutAt b116 4) (E116_4 v18 x0) (L116_4 v18 x0) = some (cutAt b116 4, E116_4 (v18 + 1) (x0), L116_4 (v18 + 1) (x0), [Decidable.decide (v18 < (↑(List.length (bytesOf x0)) : Int)) = Bool.true, 0 ≤ v18, v18 < (↑(List.length (bytesOf x0)) : Int), Decidable.decide (List.getD (bytesOf x0) (Int.toNat v18) 0 ≥ 97) = Bool.true, Decidable.decide (List.getD (bytesOf x0) (Int.toNat v18) 0 ≥ 48) = Bool.true, (!Decidable.decide (List.getD (bytesOf x0) (Int.toNat v18) 0 ≤ 122)) = Bool.true, (v18 == 0) = Bool.false, (!Decidable.decide (List.getD (bytesOf x0) (Int.toNat v18) 0 ≤ 57)) = Bool.false, InR IntKind.i64 (v18 + 1)]) := by kernel_rfl
theorem p116_6 (v18 : Int) (x0 : ByteArray) : Am.runN tab ext116 false 46 [] 2000 [] [] [16, 17, 18] [true] [true, true, true, false, false] (cutAt b116 4) (E116_4 v18 x0) (L116_4 v18 x0) = some (cutAt b116 4, E116_4 (v18 + 1) (x0), L116_4 (v18 + 1) (x0), [Decidable.decide (v18 < (↑(List.length (bytesOf x0)) : Int)) = Bool.true, 0 ≤ v18, v18 < (↑(List.length (bytesOf x0)) : Int), Decidable.decide (List.getD (bytesOf x0) (Int.toNat v18) 0 ≥ 97) = Bool.true, Decidable.decide (List.getD (bytesOf x0) (Int.toNat v18) 0 ≥ 48) = Bool.true, (!Decidable.decide (List.getD (bytesOf x0) (Int.toNat v18) 0 ≤ 122)) = Bool.false, Bool.false = Bool.false, InR IntKind.i64 (v18 + 1)]) := by kernel_rfl
theorem p116_7 (v18 : Int) (x0 : ByteArray) : runF tab ext116 false 46 [] 2000 [] tys116 Try.f116.results [true, true, false, true, true, true] (cutAt b116 4) (E116_4 v18 x0) (L116_4 v18 x0) = some ([Dyn.mk Ty.bool Bool.false], [], [Decidable.decide (v18 < (↑(List.length (bytesOf x0)) : Int)) = Bool.true, 0 ≤ v18, v18 < (↑(List.length (bytesOf x0)) : Int), Decidable.decide (List.getD (bytesOf x0) (Int.toNat v18) 0 ≥ 97) = Bool.true, Decidable.decide (List.getD (bytesOf x0) (Int.toNat v18) 0 ≥ 48) = Bool.false, (!Decidable.decide (List.getD (bytesOf x0) (Int.toNat v18) 0 ≤ 122)) = Bool.true, (v18 == 0) = Bool.true, Bool.true = Bool.true]) := by kernel_rfl
theorem p116_8 (v18 : Int) (x0 : ByteArray) : runF tab ext116 false 46 [] 2000 [] tys116 Try.f116.results [true, true, false, true, false, true] (cutAt b116 4) (E116_4 v18 x0) (L116_4 v18 x0) = some ([Dyn.mk Ty.bool Bool.false], [], [Decidable.decide (v18 < (↑(List.length (bytesOf x0)) : Int)) = Bool.true, 0 ≤ v18, v18 < (↑(List.length (bytesOf x0)) : Int), Decidable.decide (List.getD (bytesOf x0) (Int.toNat v18) 0 ≥ 97) = Bool.true, Decidable.decide (List.getD (bytesOf x0) (Int.toNat v18) 0 ≥ 48) = Bool.false, (!Decidable.decide (List.getD (bytesOf x0) (Int.toNat v18) 0 ≤ 122)) = Bool.true, (v18 == 0) = Bool.false, Bool.true = Bool.true]) := by kernel_rfl
theorem p116_9 (v18 : Int) (x0 : ByteArray) : Am.runN tab ext116 false 46 [] 2000 [] [] [16, 17, 18] [true] [true, true, false, false, false] (cutAt b116 4) (E116_4 v18 x0) (L116_4 v18 x0) = some (cutAt b116 4, E116_4 (v18 + 1) (x0), L116_4 (v18 + 1) (x0), [Decidable.decide (v18 < (↑(List.length (bytesOf x0)) : Int)) = Bool.true, 0 ≤ v18, v18 < (↑(List.length (bytesOf x0)) : Int), Decidable.decide (List.getD (bytesOf x0) (Int.toNat v18) 0 ≥ 97) = Bool.true, Decidable.decide (List.getD (bytesOf x0) (Int.toNat v18) 0 ≥ 48) = Bool.false, (!Decidable.decide (List.getD (bytesOf x0) (Int.toNat v18) 0 ≤ 122)) = Bool.false, Bool.false = Bool.false, InR IntKind.i64 (v18 + 1)]) := by kernel_rfl
theorem p116_10 (v18 : Int) (x0 : ByteArray) : runF tab ext116 false 46 [] 2000 [] tys116 Try.f116.results [true, false, true, true, true, true] (cutAt b116 4) (E116_4 v18 x0) (L116_4 v18 x0) = some ([Dyn.mk Ty.bool Bool.false], [], [Decidable.decide (v18 < (↑(List.length (bytesOf x0)) : Int)) = Bool.true, 0 ≤ v18, v18 < (↑(List.length (bytesOf x0)) : Int), Decidable.decide (List.getD (bytesOf x0) (Int.toNat v18) 0 ≥ 97) = Bool.false, Decidable.decide (List.getD (bytesOf x0) (Int.toNat v18) 0 ≥ 48) = Bool.true, Bool.true = Bool.true, (v18 == 0) = Bool.true, Bool.true = Bool.true]) := by kernel_rfl
theorem p116_11 (v18 : Int) (x0 : ByteArray) : runF tab ext116 false 46 [] 2000 [] tys116 Try.f116.results [true, false, true, true, false, true] (cutAt b116 4) (E116_4 v18 x0) (L116_4 v18 x0) = some ([Dyn.mk Ty.bool Bool.false], [], [Decidable.decide (v18 < (↑(List.length (bytesOf x0)) : Int)) = Bool.true, 0 ≤ v18, v18 < (↑(List.length (bytesOf x0)) : Int), Decidable.decide (List.getD (bytesOf x0) (Int.toNat v18) 0 ≥ 97) = Bool.false, Decidable.decide (List.getD (bytesOf x0) (Int.toNat v18) 0 ≥ 48) = Bool.true, Bool.true = Bool.true, (v18 == 0) = Bool.false, (!Decidable.decide (List.getD (bytesOf x0) (Int.toNat v18) 0 ≤ 57)) = Bool.true]) := by kernel_rfl
theorem p116_12 (v18 : Int) (x0 : ByteArray) : Am.runN tab ext116 false 46 [] 2000 [] [] [16, 17, 18] [true] [true, false, true, true, false, false] (cutAt b116 4) (E116_4 v18 x0) (L116_4 v18 x0) = some (cutAt b116 4, E116_4 (v18 + 1) (x0), L116_4 (v18 + 1) (x0), [Decidable.decide (v18 < (↑(List.length (bytesOf x0)) : Int)) = Bool.true, 0 ≤ v18, v18 < (↑(List.length (bytesOf x0)) : Int), Decidable.decide (List.getD (bytesOf x0) (Int.toNat v18) 0 ≥ 97) = Bool.false, Decidable.decide (List.getD (bytesOf x0) (Int.toNat v18) 0 ≥ 48) = Bool.true, Bool.true = Bool.true, (v18 == 0) = Bool.false, (!Decidable.decide (List.getD (bytesOf x0) (Int.toNat v18) 0 ≤ 57)) = Bool.false, InR IntKind.i64 (v18 + 1)]) := by kernel_rfl
theorem p116_13 (v18 : Int) (x0 : ByteArray) : runF tab ext116 false 46 [] 2000 [] tys116 Try.f116.results [true, false, false, true, true, true] (cutAt b116 4) (E116_4 v18 x0) (L116_4 v18 x0) = some ([Dyn.mk Ty.bool Bool.false], [], [Decidable.decide (v18 < (↑(List.length (bytesOf x0)) : Int)) = Bool.true, 0 ≤ v18, v18 < (↑(List.length (bytesOf x0)) : Int), Decidable.decide (List.getD (bytesOf x0) (Int.toNat v18) 0 ≥ 97) = Bool.false, Decidable.decide (List.getD (bytesOf x0) (Int.toNat v18) 0 ≥ 48) = Bool.false, Bool.true = Bool.true, (v18 == 0) = Bool.true, Bool.true = Bool.true]) := by kernel_rfl
theorem p116_14 (v18 : Int) (x0 : ByteArray) : runF tab ext116 false 46 [] 2000 [] tys116 Try.f116.results [true, false, false, true, false, true] (cutAt b116 4) (E116_4 v18 x0) (L116_4 v18 x0) = some ([Dyn.mk Ty.bool Bool.false], [], [Decidable.decide (v18 < (↑(List.length (bytesOf x0)) : Int)) = Bool.true, 0 ≤ v18, v18 < (↑(List.length (bytesOf x0)) : Int), Decidable.decide (List.getD (bytesOf x0) (Int.toNat v18) 0 ≥ 97) = Bool.false, Decidable.decide (List.getD (bytesOf x0) (Int.toNat v18) 0 ≥ 48) = Bool.false, Bool.true = Bool.true, (v18 == 0) = Bool.false, Bool.true = Bool.true]) := by kernel_rfl
theorem p116_15 (v18 : Int) (x0 : ByteArray) : runF tab ext116 false 46 [] 2000 [] tys116 Try.f116.results [false] (cutAt b116 4) (E116_4 v18 x0) (L116_4 v18 x0) = some ([Dyn.mk Ty.bool Bool.true], [], [Decidable.decide (v18 < (↑(List.length (bytesOf x0)) : Int)) = Bool.false]) := by kernel_rfl
theorem snd116 : ∀ n, (∀ (x0 : ByteArray) ds, R116 n x0 ds → ∀ w0 O q, AtV Try.prog 116 (PostR ds [] [] q w0 O) 46 w0 O q [] [.code b116] (entE 0 0 sig116 (x0, ())) (entL sig116 (x0, ()))) ∧ (∀ (v18 : Int) (x0 : ByteArray) ds, R116_4 n v18 x0 ds → ∀ w0 O q, AtV Try.prog 116 (PostR ds [] [] q w0 O) 46 w0 O q [] (cutAt b116 4) (E116_4 v18 x0) (L116_4 v18 x0)) := by
  intro n
  induction n with
  | zero => exact ⟨fun _ _ h => by simp only [R116] at h, fun _ _ _ h => by simp only [R116_4] at h⟩
  | succ n ih =>
  obtain ⟨ih, ih4⟩ := ih
  refine ⟨?_, ?_⟩
  · intro x0 ds h w0 O q
    rw [R116] at h
    by_cases b0 : (Decidable.decide ((↑(ByteArray.size x0) : Int) < 1)) = true
    · rw [if_pos b0] at h
      subst h
      exact AtV.fin Try.func116 tabOk ext116Ok mixed (p116_0 x0) ⟨b0, rfl, trivial⟩
    · rw [if_neg b0] at h
      replace b0 := Bool.eq_false_iff.2 b0
      by_cases b1 : (Decidable.decide ((↑(ByteArray.size x0) : Int) > 10)) = true
      · rw [if_pos b1] at h
        subst h
        exact AtV.fin Try.func116 tabOk ext116Ok mixed (p116_1 x0) ⟨b0, b1, trivial⟩
      · rw [if_neg b1] at h
        replace b1 := Bool.eq_false_iff.2 b1
        exact AtV.runN tabOk ext116Ok mixed (p116_2 x0) ⟨b0, b1, trivial⟩ (ih4 _ _ _ h w0 O q)

  · intro v18 x0 ds h w0 O q
    rw [R116_4] at h
    by_cases b0 : (Decidable.decide (v18 < (↑(List.length (bytesOf x0)) : Int))) = true
    · rw [if_pos b0] at h
      obtain ⟨s0, s1, h⟩ := h
      by_cases b1 : (Decidable.decide (List.getD (bytesOf x0) (Int.toNat v18) 0 ≥ 97)) = true
      · rw [if_pos b1] at h
        by_cases b2 : (Decidable.decide (List.getD (bytesOf x0) (Int.toNat v18) 0 ≥ 48)) = true
        · rw [if_pos b2] at h
          by_cases b3 : (!Decidable.decide (List.getD (bytesOf x0) (Int.toNat v18) 0 ≤ 122)) = true
          · rw [if_pos b3] at h
            by_cases b4 : (v18 == 0) = true
            · rw [if_pos b4] at h
              subst h
              exact AtV.fin Try.func116 tabOk ext116Ok mixed (p116_3 v18 x0) ⟨b0, s0, s1, b1, b2, b3, b4, rfl, trivial⟩
            · rw [if_neg b4] at h
              replace b4 := Bool.eq_false_iff.2 b4
              by_cases b5 : (!Decidable.decide (List.getD (bytesOf x0) (Int.toNat v18) 0 ≤ 57)) = true
              · rw [if_pos b5] at h
                subst h
                exact AtV.fin Try.func116 tabOk ext116Ok mixed (p116_4 v18 x0) ⟨b0, s0, s1, b1, b2, b3, b4, b5, trivial⟩
              · rw [if_neg b5] at h
                replace b5 := Bool.eq_false_iff.2 b5
                obtain ⟨s2, h⟩ := h
                exact AtV.runN tabOk ext116Ok mixed (p116_5 v18 x0) ⟨b0, s0, s1, b1, b2, b3, b4, b5, s2, trivial⟩ (ih4 _ _ _ h w0 O q)
          · rw [if_neg b3] at h
            replace b3 := Bool.eq_false_iff.2 b3
            obtain ⟨s2, h⟩ := h
            exact AtV.runN tabOk ext116Ok mixed (p116_6 v18 x0) ⟨b0, s0, s1, b1, b2, b3, rfl, s2, trivial⟩ (ih4 _ _ _ h w0 O q)
        · rw [if_neg b2] at h
          replace b2 := Bool.eq_false_iff.2 b2
          by_cases b3 : (!Decidable.decide (List.getD (bytesOf x0) (Int.toNat v18) 0 ≤ 122)) = true
          · rw [if_pos b3] at h
            by_cases b4 : (v18 == 0) = true
            · rw [if_pos b4] at h
              subst h
              exact AtV.fin Try.func116 tabOk ext116Ok mixed (p116_7 v18 x0) ⟨b0, s0, s1, b1, b2, b3, b4, rfl, trivial⟩
            · rw [if_neg b4] at h
              replace b4 := Bool.eq_false_iff.2 b4
              subst h
              exact AtV.fin Try.func116 tabOk ext116Ok mixed (p116_8 v18 x0) ⟨b0, s0, s1, b1, b2, b3, b4, rfl, trivial⟩
          · rw [if_neg b3] at h
            replace b3 := Bool.eq_false_iff.2 b3
            obtain ⟨s2, h⟩ := h
            exact AtV.runN tabOk ext116Ok mixed (p116_9 v18 x0) ⟨b0, s0, s1, b1, b2, b3, rfl, s2, trivial⟩ (ih4 _ _ _ h w0 O q)
      · rw [if_neg b1] at h
        replace b1 := Bool.eq_false_iff.2 b1
        by_cases b2 : (Decidable.decide (List.getD (bytesOf x0) (Int.toNat v18) 0 ≥ 48)) = true
        · rw [if_pos b2] at h
          by_cases b3 : (v18 == 0) = true
          · rw [if_pos b3] at h
            subst h
            exact AtV.fin Try.func116 tabOk ext116Ok mixed (p116_10 v18 x0) ⟨b0, s0, s1, b1, b2, rfl, b3, rfl, trivial⟩
          · rw [if_neg b3] at h
            replace b3 := Bool.eq_false_iff.2 b3
            by_cases b4 : (!Decidable.decide (List.getD (bytesOf x0) (Int.toNat v18) 0 ≤ 57)) = true
            · rw [if_pos b4] at h
              subst h
              exact AtV.fin Try.func116 tabOk ext116Ok mixed (p116_11 v18 x0) ⟨b0, s0, s1, b1, b2, rfl, b3, b4, trivial⟩
            · rw [if_neg b4] at h
              replace b4 := Bool.eq_false_iff.2 b4
              obtain ⟨s2, h⟩ := h
              exact AtV.runN tabOk ext116Ok mixed (p116_12 v18 x0) ⟨b0, s0, s1, b1, b2, rfl, b3, b4, s2, trivial⟩ (ih4 _ _ _ h w0 O q)
        · rw [if_neg b2] at h
          replace b2 := Bool.eq_false_iff.2 b2
          by_cases b3 : (v18 == 0) = true
          · rw [if_pos b3] at h
            subst h
            exact AtV.fin Try.func116 tabOk ext116Ok mixed (p116_13 v18 x0) ⟨b0, s0, s1, b1, b2, rfl, b3, rfl, trivial⟩
          · rw [if_neg b3] at h
            replace b3 := Bool.eq_false_iff.2 b3
            subst h
            exact AtV.fin Try.func116 tabOk ext116Ok mixed (p116_14 v18 x0) ⟨b0, s0, s1, b1, b2, rfl, b3, rfl, trivial⟩
    · rw [if_neg b0] at h
      replace b0 := Bool.eq_false_iff.2 b0
      subst h
      exact AtV.fin Try.func116 tabOk ext116Ok mixed (p116_15 v18 x0) ⟨b0, trivial⟩



/-- A byte of a name, at its place. -/
def ok116 (i : Nat) (b : Int) : Bool := (decide (97 ≤ b) && decide (b ≤ 122)) || (!(i == 0) && (decide (48 ≤ b) && decide (b ≤ 57)))
def g116_0 (x0 : ByteArray) : Bool := decide (1 ≤ x0.size) && decide (x0.size ≤ 10) && allI ok116 0 (bytesOf x0)
def P116 (x0 : ByteArray) : Prop := True

theorem step116 (n i : Nat) (x0 : ByteArray) (hw : Wf .str x0) (hi : i < (bytesOf x0).length) (ds : List Dyn) :
    R116_4 (n + 1) (i : Int) x0 ds ↔ (if ok116 i ((bytesOf x0).getD i 0) = true then R116_4 n ((i : Int) + 1) x0 ds else ds = [⟨.bool, false⟩]) := by
  have hu := inR_up (xs := bytesOf x0) (by rw [bytesOf_length]; exact hw) hi
  rw [R116_4, if_pos (by simp; omega)]
  simp only [Int.toNat_natCast]
  have hb : (0 : Int) ≤ (i : Int) ∧ (i : Int) < ((bytesOf x0).length : Int) := by omega
  have hz : ((i : Int) == 0) = (i == 0) := by
    cases i with
    | zero => rfl
    | succ k => simp; omega
  simp only [hz, ok116, hu, true_and, hb.1, hb.2, ge_iff_le]
  by_cases h1 : (97 : Int) ≤ (bytesOf x0).getD i 0 <;> by_cases h2 : (bytesOf x0).getD i 0 ≤ 122 <;> by_cases h3 : (48 : Int) ≤ (bytesOf x0).getD i 0 <;> by_cases h4 : (bytesOf x0).getD i 0 ≤ 57 <;> rcases Bool.eq_false_or_eq_true (i == 0) with e0 | e0 <;> first | (exfalso; omega) | simp only [h1, h2, h3, h4, e0, decide_true, decide_false, Bool.not_true, Bool.not_false, Bool.true_and, Bool.false_and, Bool.and_true, Bool.and_false, Bool.true_or, Bool.or_true, Bool.or_false, Bool.false_or, if_true, if_false, Bool.false_eq_true]

theorem top116 (x0 : ByteArray) (hw : Wf .str x0) : R116 (x0.size + 1 + 1) x0 [⟨.bool, g116_0 x0⟩] := by
  have hl := bytesOf_length x0
  rw [R116]
  by_cases h0 : (x0.size : Int) < 1
  · rw [if_pos (by simpa using h0)]
    have : ¬ 1 ≤ x0.size := by omega
    simp [g116_0, this]
  · rw [if_neg (by simpa using h0)]
    by_cases h1 : (x0.size : Int) > 10
    · rw [if_pos (by simpa using h1)]
      have : ¬ x0.size ≤ 10 := by omega
      simp [g116_0, this]
    · rw [if_neg (by simpa using h1)]
      have key := loop_testI (bytesOf x0) 0 ok116 [(⟨.bool, false⟩ : Dyn)] [⟨.bool, true⟩] (fun n i ds => R116_4 n i x0 ds) (fun n => ?_) (fun n i hi hok ds hr => ?_) (fun n i hi hok => ?_)
      · rw [hl] at key
        have e : g116_0 x0 = allI ok116 0 (bytesOf x0) := by
          have a : 1 ≤ x0.size := by omega
          have b : x0.size ≤ 10 := by omega
          simp [g116_0, a, b]
        rw [e]
        cases h : allI ok116 0 (bytesOf x0) with
        | true => rw [if_pos h] at key; exact key
        | false => rw [if_neg (by rw [h]; simp)] at key; exact key
      · show R116_4 (n + 1) ((bytesOf x0).length : Int) x0 _
        rw [R116_4, if_neg (by simp)]
      · exact (step116 n i x0 hw hi ds).2 (by rw [if_pos hok]; exact hr)
      · exact (step116 n i x0 hw hi _).2 (by rw [if_neg (by rw [hok]; simp)])

def S116 : Am.Spec := { sig := sig116, pre := fun ⟨x0, _⟩ => P116 x0, res := fun ⟨x0, _⟩ => [⟨Ty.bool, g116_0 x0⟩] }
theorem con116 : Contract Try.prog 116 S116 := contract_of Try.func116 hb116 (Nat.le_of_ble_eq_true (by kernel_rfl)) (fun ⟨x0, _⟩ h hwf w0 O q =>
  (snd116 _).1 x0 _ (top116 x0 hwf.1) w0 O q)

end Go.Proofs.Ytjkeinpcphkfbaa

/- The contracts of the library that this program uses, laid at this program. Written by a tool of the kit. -/
set_option linter.unusedVariables false
set_option maxRecDepth 100000
namespace Go.Proofs
open Go.Shelf
def Try.lays144_ren : Go.Shelf.Ren := ⟨fun | 144 => 82 | 143 => 114 | 219 => 135 | 217 => 157 | 225 => 158 | 224 => 159 | 267 => 160 | 266 => 169 | 314 => 170 | n => n, fun | 9 => 9 | 4 => 4 | 3 => 3 | 5 => 5 | 46 => 130 | 146 => 156 | 51 => 155 | n => n, fun | 1 => 0 | n => n⟩
theorem Try.lays144 : Go.Proofs.Lays.n144 Try.prog Try.lays144_ren := {
  mixed := by kernel_rfl
  f143 := Try.func114.trans (congrArg some (by kernel_rfl))
  f144 := Try.func82.trans (congrArg some (by kernel_rfl))
  f217 := Try.func157.trans (congrArg some (by kernel_rfl))
  f219 := Try.func135.trans (congrArg some (by kernel_rfl))
  f224 := Try.func159.trans (congrArg some (by kernel_rfl))
  f225 := Try.func158.trans (congrArg some (by kernel_rfl))
  f266 := Try.func169.trans (congrArg some (by kernel_rfl))
  f267 := Try.func160.trans (congrArg some (by kernel_rfl))
  f314 := Try.func170.trans (congrArg some (by kernel_rfl))
  t3 := Try.underlying3
  a3 := Try.isAgg3
  z3 := Try.sizeOf3
  v3 := Try.zeroValue3
  t4 := Try.underlying4
  a4 := Try.isAgg4
  z4 := Try.sizeOf4
  v4 := Try.zeroValue4
  t5 := Try.underlying5
  a5 := Try.isAgg5
  z5 := Try.sizeOf5
  v5 := Try.zeroValue5
  t9 := Try.underlying9
  a9 := Try.isAgg9
  z9 := Try.sizeOf9
  v9 := Try.zeroValue9
  t46 := Try.underlying130
  a46 := Try.isAgg130
  z46 := Try.sizeOf130
  v46 := Try.zeroValue130
  t51 := Try.underlying155
  a51 := Try.isAgg155
  z51 := Try.sizeOf155
  v51 := Try.zeroValue155
  t146 := Try.underlying156
  a146 := Try.isAgg156
  z146 := Try.sizeOf156
  v146 := Try.zeroValue156
  g1 := by kernel_rfl }
open Go.RowKit Go.Lib in theorem Try.strings_Contains (s sub : ByteArray) (m : Int) (w : World) (hs : s.size < 4294967281) (hm : w.cell? ⟨0, 0, none⟩ = some (.int .i64 m)) :
    Calls Try.prog 82 #[.string s, .string sub] w fun e w' => e = .returned (.bool (Lib.contains s.data.toList sub.data.toList)) ∧ w' = w := Any.strings_Contains Try.lays144 s sub m w hs hm
end Go.Proofs

/- Function 82 (strings.Contains): its contract, off what is known of the library. -/
set_option linter.unusedVariables false
set_option linter.unusedSimpArgs false
set_option maxRecDepth 100000
namespace Go.Proofs.Ytjkeinpcphkfbaa
open Go Go.Am Go.Proofs

def sig82 : List AT := [AT.v Ty.str, AT.v Ty.str]
def g82_0 (x0 x1 : ByteArray) : Bool := Lib.contains x0.data.toList x1.data.toList
def P82 (x0 x1 : ByteArray) : Prop := x0.size < 4294967281
def S82 : Am.Spec := { sig := sig82, pre := fun ⟨x0, x1, _⟩ => P82 x0 x1, res := fun ⟨x0, x1, _⟩ => [⟨Ty.bool, g82_0 x0 x1⟩] }
theorem con82 : Contract Try.prog 82 S82 := contract_flat rfl fun w ⟨x0, x1, _⟩ vs bss hg hp hw ha => by
  obtain ⟨v0, s0, _, _, rfl, _, ⟨_, rfl, _⟩, v1, s1, _, _, rfl, _, ⟨_, rfl, _⟩, rfl, _⟩ := ha
  refine ⟨fun d hd => by rw [List.mem_singleton.1 hd]; exact ⟨rfl, trivial⟩, ?_⟩
  obtain ⟨m, hm⟩ := maxLenG hg
  refine (Try.strings_Contains x0 x1 m w hp hm).mono ?_
  rintro e w' ⟨rfl, rfl⟩
  exact ⟨rfl, Kept.refl _ _⟩

end Go.Proofs.Ytjkeinpcphkfbaa

/- Function 84 (impl.ValidBlock): its runs between cut points. Written by a program of this repo (gen). -/
set_option linter.unusedVariables false
set_option linter.unusedSimpArgs false
set_option maxRecDepth 100000
namespace Go.Proofs.Ytjkeinpcphkfbaa
open Go Go.Am Go.Proofs
def ext84 : Ext := [(116, S116), (82, S82)]
theorem call84_116 : Callable Try.prog 116 := ⟨Try.f116, Try.func116, by kernel_rfl, by kernel_rfl⟩
theorem call84_82 : Callable Try.prog 82 := ⟨Try.f82, Try.func82, by kernel_rfl, by kernel_rfl⟩
theorem ext84Ok : ExtOk Try.prog ext84 := ⟨⟨call84_116, con116⟩, ⟨call84_82, con82⟩, trivial⟩
/-! Function 84. -/
noncomputable def b84 : Code := bodyOf Try.f84
theorem hb84 : Try.f84.body = some b84 := by kernel_rfl
def sig84 : List AT := [AT.v (Ty.cons Ty.str (Ty.cons Ty.str (Ty.cons Ty.str Ty.unit)))]
def tys84 : List Ty := [Ty.bool]
def P84 (x0 : ByteArray × ByteArray × ByteArray × Unit) : Prop := (if (g116_0 (Prod.fst x0)) = true then (if (g116_0 (Prod.fst (Prod.snd x0))) = true then (if (Decidable.decide ((↑(ByteArray.size (Prod.fst (Prod.snd (Prod.snd x0)))) : Int) ≤ 400)) = true then ((P82 (Prod.fst (Prod.snd (Prod.snd x0))) (ByteArray.mk #[10])) ∧ True) else True) else True) else True)
def g84_0 (x0 : ByteArray × ByteArray × ByteArray × Unit) : Bool := (if (g116_0 (Prod.fst x0)) = true then (if (g116_0 (Prod.fst (Prod.snd x0))) = true then (if (Decidable.decide ((↑(ByteArray.size (Prod.fst (Prod.snd (Prod.snd x0)))) : Int) ≤ 400)) = true then !g82_0 (Prod.fst (Prod.snd (Prod.snd x0))) (ByteArray.mk #[10]) else Bool.false) else Bool.false) else Bool.false)
theorem p84_0 (x0 : ByteArray × ByteArray × ByteArray × Unit) : runF tab ext84 false 23 [] 2000 [] tys84 Try.f84.results [true, true, true] [.code b84] (entE 0 0 sig84 (x0, ())) (entL sig84 (x0, ())) = some ([Dyn.mk Ty.bool !g82_0 (Prod.fst (Prod.snd (Prod.snd x0))) (ByteArray.mk #[10])], [], [True, g116_0 (Prod.fst x0) = Bool.true, True, g116_0 (Prod.fst (Prod.snd x0)) = Bool.true, Decidable.decide ((↑(ByteArray.size (Prod.fst (Prod.snd (Prod.snd x0)))) : Int) ≤ 400) = Bool.true, P82 (Prod.fst (Prod.snd (Prod.snd x0))) (ByteArray.mk #[10])]) := by kernel_rfl
theorem p84_1 (x0 : ByteArray × ByteArray × ByteArray × Unit) : runF tab ext84 false 23 [] 2000 [] tys84 Try.f84.results [true, true, false] [.code b84] (entE 0 0 sig84 (x0, ())) (entL sig84 (x0, ())) = some ([Dyn.mk Ty.bool Bool.false], [], [True, g116_0 (Prod.fst x0) = Bool.true, True, g116_0 (Prod.fst (Prod.snd x0)) = Bool.true, Decidable.decide ((↑(ByteArray.size (Prod.fst (Prod.snd (Prod.snd x0)))) : Int) ≤ 400) = Bool.false]) := by kernel_rfl
theorem p84_2 (x0 : ByteArray × ByteArray × ByteArray × Unit) : runF tab ext84 false 23 [] 2000 [] tys84 Try.f84.results [true, false, false] [.code b84] (entE 0 0 sig84 (x0, ())) (entL sig84 (x0, ())) = some ([Dyn.mk Ty.bool Bool.false], [], [True, g116_0 (Prod.fst x0) = Bool.true, True, g116_0 (Prod.fst (Prod.snd x0)) = Bool.false, Bool.false = Bool.false]) := by kernel_rfl
theorem p84_3 (x0 : ByteArray × ByteArray × ByteArray × Unit) : runF tab ext84 false 23 [] 2000 [] tys84 Try.f84.results [false, false, false] [.code b84] (entE 0 0 sig84 (x0, ())) (entL sig84 (x0, ())) = some ([Dyn.mk Ty.bool Bool.false], [], [True, g116_0 (Prod.fst x0) = Bool.false, Bool.false = Bool.false, Bool.false = Bool.false]) := by kernel_rfl
theorem at84 (x0 : ByteArray × ByteArray × ByteArray × Unit) (h : P84 x0) (w0 : World) (O : List Nat) (q : Nat → Value) : AtV Try.prog 84 (PostR [⟨Ty.bool, g84_0 x0⟩] [] [] q w0 O) 23 w0 O q [] [.code b84] (entE 0 0 sig84 (x0, ())) (entL sig84 (x0, ())) := by
  unfold P84 at h
  unfold g84_0
  by_cases b0 : (g116_0 (Prod.fst x0)) = true
  · try simp only [if_pos b0] at h ⊢
    by_cases b1 : (g116_0 (Prod.fst (Prod.snd x0))) = true
    · try simp only [if_pos b1] at h ⊢
      by_cases b2 : (Decidable.decide ((↑(ByteArray.size (Prod.fst (Prod.snd (Prod.snd x0)))) : Int) ≤ 400)) = true
      · try simp only [if_pos b2] at h ⊢
        obtain ⟨s0, h⟩ := h
        exact AtV.fin Try.func84 tabOk ext84Ok mixed (p84_0 x0) ⟨trivial, b0, trivial, b1, b2, s0, trivial⟩
      · try simp only [if_neg b2] at h ⊢
        replace b2 := Bool.eq_false_iff.2 b2
        exact AtV.fin Try.func84 tabOk ext84Ok mixed (p84_1 x0) ⟨trivial, b0, trivial, b1, b2, trivial⟩
    · try simp only [if_neg b1] at h ⊢
      replace b1 := Bool.eq_false_iff.2 b1
      exact AtV.fin Try.func84 tabOk ext84Ok mixed (p84_2 x0) ⟨trivial, b0, trivial, b1, rfl, trivial⟩
  · try simp only [if_neg b0] at h ⊢
    replace b0 := Bool.eq_false_iff.2 b0
    exact AtV.fin Try.func84 tabOk ext84Ok mixed (p84_3 x0) ⟨trivial, b0, rfl, rfl, trivial⟩

def S84 : Am.Spec := { sig := sig84, pre := fun ⟨x0, _⟩ => P84 x0, res := fun ⟨x0, _⟩ => [⟨Ty.bool, g84_0 x0⟩] }
theorem con84 : Contract Try.prog 84 S84 := contract_of Try.func84 hb84 (Nat.le_of_ble_eq_true (by kernel_rfl)) (fun ⟨x0, _⟩ h _ w0 O q => at84 x0 h w0 O q)


theorem pre84 (x : ByteArray × ByteArray × ByteArray × Unit) : P84 x := by
  unfold P84
  split
  · split
    · split
      · rename_i h
        simp only [decide_eq_true_eq] at h
        refine ⟨?_, trivial⟩
        show x.2.2.1.size < 4294967281
        omega
      · trivial
    · trivial
  · trivial

end Go.Proofs.Ytjkeinpcphkfbaa

/- Function 136 (cmp.isNaN[string]): its runs between cut points. Written by a program of this repo (gen). -/
set_option linter.unusedVariables false
set_option linter.unusedSimpArgs false
set_option maxRecDepth 100000
namespace Go.Proofs.Ytjkeinpcphkfbaa
open Go Go.Am Go.Proofs
def ext136 : Ext := []
theorem ext136Ok : ExtOk Try.prog ext136 := trivial
/-! Function 136. -/
noncomputable def b136 : Code := bodyOf Try.f136
theorem hb136 : Try.f136.body = some b136 := by kernel_rfl
def sig136 : List AT := [AT.v (Ty.str)]
def tys136 : List Ty := [Ty.bool]
def P136 (x0 : ByteArray) : Prop := True
def g136_0 (x0 : ByteArray) : Bool := !ByteArray.toList x0 == ByteArray.toList x0
theorem p136_0 (x0 : ByteArray) : runF tab ext136 false 6 [] 2000 [] tys136 Try.f136.results [] [.code b136] (entE 0 0 sig136 (x0, ())) (entL sig136 (x0, ())) = some ([Dyn.mk Ty.bool !ByteArray.toList x0 == ByteArray.toList x0], [], []) := by kernel_rfl
theorem at136 (x0 : ByteArray) (h : P136 x0) (w0 : World) (O : List Nat) (q : Nat → Value) : AtV Try.prog 136 (PostR [⟨Ty.bool, g136_0 x0⟩] [] [] q w0 O) 6 w0 O q [] [.code b136] (entE 0 0 sig136 (x0, ())) (entL sig136 (x0, ())) := by
  unfold P136 at h
  unfold g136_0
  exact AtV.fin Try.func136 tabOk ext136Ok mixed (p136_0 x0) trivial

def S136 : Am.Spec := { sig := sig136, pre := fun ⟨x0, _⟩ => P136 x0, res := fun ⟨x0, _⟩ => [⟨Ty.bool, g136_0 x0⟩] }
theorem con136 : Contract Try.prog 136 S136 := contract_of Try.func136 hb136 (Nat.le_of_ble_eq_true (by kernel_rfl)) (fun ⟨x0, _⟩ h _ w0 O q => at136 x0 h w0 O q)


end Go.Proofs.Ytjkeinpcphkfbaa

/- Function 118 (cmp.Compare[string]): its runs between cut points. Written by a program of this repo (gen). -/
set_option linter.unusedVariables false
set_option linter.unusedSimpArgs false
set_option maxRecDepth 100000
namespace Go.Proofs.Ytjkeinpcphkfbaa
open Go Go.Am Go.Proofs
def ext118 : Ext := [(136, S136)]
theorem call118_136 : Callable Try.prog 136 := ⟨Try.f136, Try.func136, by kernel_rfl, by kernel_rfl⟩
theorem ext118Ok : ExtOk Try.prog ext118 := ⟨⟨call118_136, con136⟩, trivial⟩
/-! Function 118. -/
noncomputable def b118 : Code := bodyOf Try.f118
theorem hb118 : Try.f118.body = some b118 := by kernel_rfl
def sig118 : List AT := [AT.v (Ty.str), AT.v (Ty.str)]
def tys118 : List Ty := [Ty.int IntKind.i64]
def P118 (x0 : ByteArray) (x1 : ByteArray) : Prop := True
def g118_0 (x0 : ByteArray) (x1 : ByteArray) : Int := (if (g136_0 x0) = true then (if (g136_0 x1) = true then 0 else -1) else (if (g136_0 x1) = true then 1 else (if (Op.bytesLess (ByteArray.toList x0) (ByteArray.toList x1)) = true then -1 else (if (!(Op.bytesLess (ByteArray.toList x0) (ByteArray.toList x1) || ByteArray.toList x0 == ByteArray.toList x1)) = true then 1 else 0))))
theorem p118_0 (x0 : ByteArray) (x1 : ByteArray) : runF tab ext118 false 20 [] 2000 [] tys118 Try.f118.results [true, true] [.code b118] (entE 0 0 sig118 (x0, x1, ())) (entL sig118 (x0, x1, ())) = some ([Dyn.mk (Ty.int IntKind.i64) 0], [], [True, True, g136_0 x0 = Bool.true, g136_0 x1 = Bool.true]) := by kernel_rfl
theorem p118_1 (x0 : ByteArray) (x1 : ByteArray) : runF tab ext118 false 20 [] 2000 [] tys118 Try.f118.results [true, false] [.code b118] (entE 0 0 sig118 (x0, x1, ())) (entL sig118 (x0, x1, ())) = some ([Dyn.mk (Ty.int IntKind.i64) (-1)], [], [True, True, g136_0 x0 = Bool.true, g136_0 x1 = Bool.false]) := by kernel_rfl
theorem p118_2 (x0 : ByteArray) (x1 : ByteArray) : runF tab ext118 false 20 [] 2000 [] tys118 Try.f118.results [false, true] [.code b118] (entE 0 0 sig118 (x0, x1, ())) (entL sig118 (x0, x1, ())) = some ([Dyn.mk (Ty.int IntKind.i64) 1], [], [True, True, g136_0 x0 = Bool.false, g136_0 x1 = Bool.true]) := by kernel_rfl
theorem p118_3 (x0 : ByteArray) (x1 : ByteArray) : runF tab ext118 false 20 [] 2000 [] tys118 Try.f118.results [false, false, true] [.code b118] (entE 0 0 sig118 (x0, x1, ())) (entL sig118 (x0, x1, ())) = some ([Dyn.mk (Ty.int IntKind.i64) (-1)], [], [True, True, g136_0 x0 = Bool.false, g136_0 x1 = Bool.false, Op.bytesLess (ByteArray.toList x0) (ByteArray.toList x1) = Bool.true]) := by kernel_rfl
theorem p118_4 (x0 : ByteArray) (x1 : ByteArray) : runF tab ext118 false 20 [] 2000 [] tys118 Try.f118.results [false, false, false, true] [.code b118] (entE 0 0 sig118 (x0, x1, ())) (entL sig118 (x0, x1, ())) = some ([Dyn.mk (Ty.int IntKind.i64) 1], [], [True, True, g136_0 x0 = Bool.false, g136_0 x1 = Bool.false, Op.bytesLess (ByteArray.toList x0) (ByteArray.toList x1) = Bool.false, (!(Op.bytesLess (ByteArray.toList x0) (ByteArray.toList x1) || ByteArray.toList x0 == ByteArray.toList x1)) = Bool.true]) := by kernel_rfl
theorem p118_5 (x0 : ByteArray) (x1 : ByteArray) : runF tab ext118 false 20 [] 2000 [] tys118 Try.f118.results [false, false, false, false] [.code b118] (entE 0 0 sig118 (x0, x1, ())) (entL sig118 (x0, x1, ())) = some ([Dyn.mk (Ty.int IntKind.i64) 0], [], [True, True, g136_0 x0 = Bool.false, g136_0 x1 = Bool.false, Op.bytesLess (ByteArray.toList x0) (ByteArray.toList x1) = Bool.false, (!(Op.bytesLess (ByteArray.toList x0) (ByteArray.toList x1) || ByteArray.toList x0 == ByteArray.toList x1)) = Bool.false]) := by kernel_rfl
theorem at118 (x0 : ByteArray) (x1 : ByteArray) (h : P118 x0 x1) (w0 : World) (O : List Nat) (q : Nat → Value) : AtV Try.prog 118 (PostR [⟨Ty.int IntKind.i64, g118_0 x0 x1⟩] [] [] q w0 O) 20 w0 O q [] [.code b118] (entE 0 0 sig118 (x0, x1, ())) (entL sig118 (x0, x1, ())) := by
  unfold P118 at h
  unfold g118_0
  by_cases b0 : (g136_0 x0) = true
  · try simp only [if_pos b0] at h ⊢
    by_cases b1 : (g136_0 x1) = true
    · try simp only [if_pos b1] at h ⊢
      exact AtV.fin Try.func118 tabOk ext118Ok mixed (p118_0 x0 x1) ⟨trivial, trivial, b0, b1, trivial⟩
    · try simp only [if_neg b1] at h ⊢
      replace b1 := Bool.eq_false_iff.2 b1
      exact AtV.fin Try.func118 tabOk ext118Ok mixed (p118_1 x0 x1) ⟨trivial, trivial, b0, b1, trivial⟩
  · try simp only [if_neg b0] at h ⊢
    replace b0 := Bool.eq_false_iff.2 b0
    by_cases b1 : (g136_0 x1) = true
    · try simp only [if_pos b1] at h ⊢
      exact AtV.fin Try.func118 tabOk ext118Ok mixed (p118_2 x0 x1) ⟨trivial, trivial, b0, b1, trivial⟩
    · try simp only [if_neg b1] at h ⊢
      replace b1 := Bool.eq_false_iff.2 b1
      by_cases b2 : (Op.bytesLess (ByteArray.toList x0) (ByteArray.toList x1)) = true
      · try simp only [if_pos b2] at h ⊢
        exact AtV.fin Try.func118 tabOk ext118Ok mixed (p118_3 x0 x1) ⟨trivial, trivial, b0, b1, b2, trivial⟩
      · try simp only [if_neg b2] at h ⊢
        replace b2 := Bool.eq_false_iff.2 b2
        by_cases b3 : (!(Op.bytesLess (ByteArray.toList x0) (ByteArray.toList x1) || ByteArray.toList x0 == ByteArray.toList x1)) = true
        · try simp only [if_pos b3] at h ⊢
          exact AtV.fin Try.func118 tabOk ext118Ok mixed (p118_4 x0 x1) ⟨trivial, trivial, b0, b1, b2, b3, trivial⟩
        · try simp only [if_neg b3] at h ⊢
          replace b3 := Bool.eq_false_iff.2 b3
          exact AtV.fin Try.func118 tabOk ext118Ok mixed (p118_5 x0 x1) ⟨trivial, trivial, b0, b1, b2, b3, trivial⟩

def S118 : Am.Spec := { sig := sig118, pre := fun ⟨x0, x1, _⟩ => P118 x0 x1, res := fun ⟨x0, x1, _⟩ => [⟨Ty.int IntKind.i64, g118_0 x0 x1⟩] }
theorem con118 : Contract Try.prog 118 S118 := contract_of Try.func118 hb118 (Nat.le_of_ble_eq_true (by kernel_rfl)) (fun ⟨x0, x1, _⟩ h _ w0 O q => at118 x0 x1 h w0 O q)


end Go.Proofs.Ytjkeinpcphkfbaa

/- Function 117 (cmp.Or[int]): its runs between cut points. Written by a program of this repo (gen). -/
set_option linter.unusedVariables false
set_option linter.unusedSimpArgs false
set_option maxRecDepth 100000
namespace Go.Proofs.Ytjkeinpcphkfbaa
open Go Go.Am Go.Proofs
def ext117 : Ext := []
theorem ext117Ok : ExtOk Try.prog ext117 := trivial
/-! Function 117. -/
noncomputable def b117 : Code := bodyOf Try.f117
theorem hb117 : Try.f117.body = some b117 := by kernel_rfl
def sig117 : List AT := [AT.v (Ty.sl (Ty.int IntKind.i64))]
def tys117 : List Ty := [Ty.int IntKind.i64]
def E117_3 (v8 : Int) (x0 : List Int) : Env := [(3, PV.a (Atom.val (Value.int IntKind.i64 0))), (6, PV.a (Atom.sl (Ty.int IntKind.i64) x0)), (7, PV.a (Atom.val (Value.int IntKind.i64 (↑(List.length x0) : Int)))), (8, PV.a (Atom.val (Value.int IntKind.i64 v8)))]
def L117_3 (v8 : Int) (x0 : List Int) : Heap := []
mutual
def R117 : Nat → List Int → List Dyn → Prop
  | 0, _, _ => False
  | n + 1, x0, ds => (R117_3 n (0) (x0) ds)
def R117_3 : Nat → Int → List Int → List Dyn → Prop
  | 0, _, _, _ => False
  | n + 1, v8, x0, ds => (if (Decidable.decide (v8 < (↑(List.length x0) : Int))) = true then ((0 ≤ v8) ∧ (v8 < (↑(List.length x0) : Int)) ∧ (if (List.getD x0 (Int.toNat v8) 0 != 0) = true then (ds = [Dyn.mk (Ty.int IntKind.i64) (List.getD x0 (Int.toNat v8) 0)]) else ((InR IntKind.i64 (v8 + 1)) ∧ (R117_3 n (v8 + 1) (x0) ds)))) else (ds = [Dyn.mk (Ty.int IntKind.i64) 0]))
end
theorem p117_0 (x0 : List Int) : Am.runN tab ext117 false 18 [] 2000 [] [] [3, 6, 7, 8] [] [] [.code b117] (entE 0 0 sig117 (x0, ())) (entL sig117 (x0, ())) = some (cutAt b117 3, E117_3 (0) (x0), L117_3 (0) (x0), []) := by kernel_rfl
theorem p117_1 (v8 : Int) (x0 : List Int) : runF tab ext117 false 18 [] 2000 [] tys117 Try.f117.results [true, true] (cutAt b117 3) (E117_3 v8 x0) (L117_3 v8 x0) = some ([Dyn.mk (Ty.int IntKind.i64) (List.getD x0 (Int.toNat v8) 0)], [], [Decidable.decide (v8 < (↑(List.length x0) : Int)) = Bool.true, 0 ≤ v8, v8 < (↑(List.length x0) : Int), (List.getD x0 (Int.toNat v8) 0 != 0) = Bool.true]) := by kernel_rfl
theorem p117_2 (v8 : Int) (x0 : List Int) : Am.runN tab ext117 false 18 [] 2000 [] [] [3, 6, 7, 8] [] [true, false] (cutAt b117 3) (E117_3 v8 x0) (L117_3 v8 x0) = some (cutAt b117 3, E117_3 (v8 + 1) (x0), L117_3 (v8 + 1) (x0), [Decidable.decide (v8 < (↑(List.length x0) : Int)) = Bool.true, 0 ≤ v8, v8 < (↑(List.length x0) : Int), (List.getD x0 (Int.toNat v8) 0 != 0) = Bool.false, InR IntKind.i64 (v8 + 1)]) := by kernel_rfl
theorem p117_3 (v8 : Int) (x0 : List Int) : runF tab ext117 false 18 [] 2000 [] tys117 Try.f117.results [false] (cutAt b117 3) (E117_3 v8 x0) (L117_3 v8 x0) = some ([Dyn.mk (Ty.int IntKind.i64) 0], [], [Decidable.decide (v8 < (↑(List.length x0) : Int)) = Bool.false]) := by kernel_rfl
theorem snd117 : ∀ n, (∀ (x0 : List Int) ds, R117 n x0 ds → ∀ w0 O q, AtV Try.prog 117 (PostR ds [] [] q w0 O) 18 w0 O q [] [.code b117] (entE 0 0 sig117 (x0, ())) (entL sig117 (x0, ()))) ∧ (∀ (v8 : Int) (x0 : List Int) ds, R117_3 n v8 x0 ds → ∀ w0 O q, AtV Try.prog 117 (PostR ds [] [] q w0 O) 18 w0 O q [] (cutAt b117 3) (E117_3 v8 x0) (L117_3 v8 x0)) := by
  intro n
  induction n with
  | zero => exact ⟨fun _ _ h => by simp only [R117] at h, fun _ _ _ h => by simp only [R117_3] at h⟩
  | succ n ih =>
  obtain ⟨ih, ih3⟩ := ih
  refine ⟨?_, ?_⟩
  · intro x0 ds h w0 O q
    rw [R117] at h
    exact AtV.runN tabOk ext117Ok mixed (p117_0 x0) trivial (ih3 _ _ _ h w0 O q)

  · intro v8 x0 ds h w0 O q
    rw [R117_3] at h
    by_cases b0 : (Decidable.decide (v8 < (↑(List.length x0) : Int))) = true
    · rw [if_pos b0] at h
      obtain ⟨s0, s1, h⟩ := h
      by_cases b1 : (List.getD x0 (Int.toNat v8) 0 != 0) = true
      · rw [if_pos b1] at h
        subst h
        exact AtV.fin Try.func117 tabOk ext117Ok mixed (p117_1 v8 x0) ⟨b0, s0, s1, b1, trivial⟩
      · rw [if_neg b1] at h
        replace b1 := Bool.eq_false_iff.2 b1
        obtain ⟨s2, h⟩ := h
        exact AtV.runN tabOk ext117Ok mixed (p117_2 v8 x0) ⟨b0, s0, s1, b1, s2, trivial⟩ (ih3 _ _ _ h w0 O q)
    · rw [if_neg b0] at h
      replace b0 := Bool.eq_false_iff.2 b0
      subst h
      exact AtV.fin Try.func117 tabOk ext117Ok mixed (p117_3 v8 x0) ⟨b0, trivial⟩



def g117_0 : List Int → Int
  | [] => 0
  | x :: r => if x != 0 then x else g117_0 r
def P117 (x0 : List Int) : Prop := True

theorem goL117 : ∀ (xs : List Int), goL (fun (_ : Unit) (x : Int) => if (x != 0) = true then Except.error [(⟨.int .i64, x⟩ : Dyn)] else .ok ()) (fun _ => [⟨.int .i64, (0 : Int)⟩]) () xs = [⟨.int .i64, g117_0 xs⟩]
  | [] => rfl
  | x :: r => by
    simp only [goL, g117_0]
    cases h : x != 0 with
    | true => simp
    | false => simpa using goL117 r

theorem top117 (x0 : List Int) (hm : x0.length ≤ maxLen) : R117 (x0.length + 1 + 1) x0 [⟨.int .i64, g117_0 x0⟩] := by
  rw [R117, ← goL117]
  refine loop_all x0 0 _ _ (fun _ _ => True) (fun n i _ ds => R117_3 n i x0 ds) trivial ?_ ?_
  · intro n b _
    show R117_3 (n + 1) x0.length x0 _
    rw [R117_3, if_neg (by simp)]
  · intro n i b hi _
    cases h : (x0.getD i 0 != 0) with
    | true =>
      show R117_3 (n + 1) (i : Int) x0 _
      rw [R117_3, if_pos (by simp; omega)]
      refine ⟨by omega, by omega, ?_⟩
      simp only [Int.toNat_natCast]
      rw [if_pos h] <;> trivial
    | false =>
      refine ⟨trivial, fun ds hr => ?_⟩
      rw [R117_3, if_pos (by simp; omega)]
      refine ⟨by omega, by omega, ?_⟩
      simp only [Int.toNat_natCast]
      rw [if_neg (by rw [h]; simp)]
      exact ⟨inR_up hm hi, hr⟩

def S117 : Am.Spec := { sig := sig117, pre := fun ⟨x0, _⟩ => P117 x0, res := fun ⟨x0, _⟩ => [⟨Ty.int .i64, g117_0 x0⟩] }
theorem con117 : Contract Try.prog 117 S117 := contract_of Try.func117 hb117 (Nat.le_of_ble_eq_true (by kernel_rfl)) (fun ⟨x0, _⟩ h hwf w0 O q =>
  (snd117 _).1 x0 _ (top117 x0 hwf.1.1) w0 O q)

end Go.Proofs.Ytjkeinpcphkfbaa

/- Function 85 (impl.compareBlocks): its runs between cut points. Written by a program of this repo (gen). -/
set_option linter.unusedVariables false
set_option linter.unusedSimpArgs false
set_option maxRecDepth 100000
namespace Go.Proofs.Ytjkeinpcphkfbaa
open Go Go.Am Go.Proofs
def ext85 : Ext := [(118, S118), (117, S117)]
theorem call85_118 : Callable Try.prog 118 := ⟨Try.f118, Try.func118, by kernel_rfl, by kernel_rfl⟩
theorem call85_117 : Callable Try.prog 117 := ⟨Try.f117, Try.func117, by kernel_rfl, by kernel_rfl⟩
theorem ext85Ok : ExtOk Try.prog ext85 := ⟨⟨call85_118, con118⟩, ⟨call85_117, con117⟩, trivial⟩
/-! Function 85. -/
noncomputable def b85 : Code := bodyOf Try.f85
theorem hb85 : Try.f85.body = some b85 := by kernel_rfl
def sig85 : List AT := [AT.v (Ty.cons Ty.str (Ty.cons Ty.str (Ty.cons Ty.str Ty.unit))), AT.v (Ty.cons Ty.str (Ty.cons Ty.str (Ty.cons Ty.str Ty.unit)))]
def tys85 : List Ty := [Ty.int IntKind.i64]
def P85 (x0 : ByteArray × ByteArray × ByteArray × Unit) (x1 : ByteArray × ByteArray × ByteArray × Unit) : Prop := True
def g85_0 (x0 : ByteArray × ByteArray × ByteArray × Unit) (x1 : ByteArray × ByteArray × ByteArray × Unit) : Int := g117_0 [g118_0 (Prod.fst x0) (Prod.fst x1), g118_0 (Prod.fst (Prod.snd x0)) (Prod.fst (Prod.snd x1))]
theorem p85_0 (x0 : ByteArray × ByteArray × ByteArray × Unit) (x1 : ByteArray × ByteArray × ByteArray × Unit) : runF tab ext85 false 17 [] 2000 [] tys85 Try.f85.results [] [.code b85] (entE 0 0 sig85 (x0, x1, ())) (entL sig85 (x0, x1, ())) = some ([Dyn.mk (Ty.int IntKind.i64) (g117_0 [g118_0 (Prod.fst x0) (Prod.fst x1), g118_0 (Prod.fst (Prod.snd x0)) (Prod.fst (Prod.snd x1))])], [], [True, True, True]) := by kernel_rfl
theorem at85 (x0 : ByteArray × ByteArray × ByteArray × Unit) (x1 : ByteArray × ByteArray × ByteArray × Unit) (h : P85 x0 x1) (w0 : World) (O : List Nat) (q : Nat → Value) : AtV Try.prog 85 (PostR [⟨Ty.int IntKind.i64, g85_0 x0 x1⟩] [] [] q w0 O) 17 w0 O q [] [.code b85] (entE 0 0 sig85 (x0, x1, ())) (entL sig85 (x0, x1, ())) := by
  unfold P85 at h
  unfold g85_0
  exact AtV.fin Try.func85 tabOk ext85Ok mixed (p85_0 x0 x1) ⟨trivial, trivial, trivial, trivial⟩

def S85 : Am.Spec := { sig := sig85, pre := fun ⟨x0, x1, _⟩ => P85 x0 x1, res := fun ⟨x0, x1, _⟩ => [⟨Ty.int IntKind.i64, g85_0 x0 x1⟩] }
theorem con85 : Contract Try.prog 85 S85 := contract_of Try.func85 hb85 (Nat.le_of_ble_eq_true (by kernel_rfl)) (fun ⟨x0, x1, _⟩ h _ w0 O q => at85 x0 x1 h w0 O q)


end Go.Proofs.Ytjkeinpcphkfbaa

/- Function 37 (impl.ValidBlocks): its runs between cut points. Written by a program of this repo (gen). -/
set_option linter.unusedVariables false
set_option linter.unusedSimpArgs false
set_option maxRecDepth 100000
namespace Go.Proofs.Ytjkeinpcphkfbaa
open Go Go.Am Go.Proofs
def ext37 : Ext := [(84, S84), (85, S85)]
theorem call37_84 : Callable Try.prog 84 := ⟨Try.f84, Try.func84, by kernel_rfl, by kernel_rfl⟩
theorem call37_85 : Callable Try.prog 85 := ⟨Try.f85, Try.func85, by kernel_rfl, by kernel_rfl⟩
theorem ext37Ok : ExtOk Try.prog ext37 := ⟨⟨call37_84, con84⟩, ⟨call37_85, con85⟩, trivial⟩
/-! Function 37. -/
noncomputable def b37 : Code := bodyOf Try.f37
theorem hb37 : Try.f37.body = some b37 := by kernel_rfl
def sig37 : List AT := [AT.v (Ty.sl (Ty.cons Ty.str (Ty.cons Ty.str (Ty.cons Ty.str Ty.unit))))]
def tys37 : List Ty := [Ty.bool]
def E37_2 (v7 : Int) (x0 : List (ByteArray × ByteArray × ByteArray × Unit)) : Env := [(0, PV.a (Atom.sl (Ty.cons Ty.str (Ty.cons Ty.str (Ty.cons Ty.str Ty.unit))) x0)), (5, PV.a (Atom.sl (Ty.cons Ty.str (Ty.cons Ty.str (Ty.cons Ty.str Ty.unit))) x0)), (6, PV.a (Atom.val (Value.int IntKind.i64 (↑(List.length x0) : Int)))), (7, PV.a (Atom.val (Value.int IntKind.i64 v7)))]
def L37_2 (v7 : Int) (x0 : List (ByteArray × ByteArray × ByteArray × Unit)) : Heap := []
mutual
def R37 : Nat → List (ByteArray × ByteArray × ByteArray × Unit) → List Dyn → Prop
  | 0, _, _ => False
  | n + 1, x0, ds => (R37_2 n (0) (x0) ds)
def R37_2 : Nat → Int → List (ByteArray × ByteArray × ByteArray × Unit) → List Dyn → Prop
  | 0, _, _, _ => False
  | n + 1, v7, x0, ds => (if (Decidable.decide (v7 < (↑(List.length x0) : Int))) = true then ((0 ≤ v7) ∧ (v7 < (↑(List.length x0) : Int)) ∧ ((P84 (List.getD x0 (Int.toNat v7) (ByteArray.empty, ByteArray.empty, ByteArray.empty, ()))) ∧ (if (!g84_0 (List.getD x0 (Int.toNat v7) (ByteArray.empty, ByteArray.empty, ByteArray.empty, ()))) = true then (ds = [Dyn.mk Ty.bool Bool.false]) else (if (Decidable.decide (v7 > 0)) = true then ((InR IntKind.i64 (v7 - 1)) ∧ ((0 ≤ v7 - 1) ∧ (v7 - 1 < (↑(List.length x0) : Int)) ∧ (if (Decidable.decide (g85_0 (List.getD x0 (Int.toNat (v7 - 1)) (ByteArray.empty, ByteArray.empty, ByteArray.empty, ())) (List.getD x0 (Int.toNat v7) (ByteArray.empty, ByteArray.empty, ByteArray.empty, ())) ≥ 0)) = true then (ds = [Dyn.mk Ty.bool Bool.false]) else ((InR IntKind.i64 (v7 + 1)) ∧ (R37_2 n (v7 + 1) (x0) ds))))) else ((InR IntKind.i64 (v7 + 1)) ∧ (R37_2 n (v7 + 1) (x0) ds)))))) else (ds = [Dyn.mk Ty.bool (Decidable.decide ((↑(List.length x0) : Int) ≤ 32))]))
end
theorem p37_0 (x0 : List (ByteArray × ByteArray × ByteArray × Unit)) : Am.runN tab ext37 false 33 [] 2000 [] [] [0, 5, 6, 7] [] [] [.code b37] (entE 0 0 sig37 (x0, ())) (entL sig37 (x0, ())) = some (cutAt b37 2, E37_2 (0) (x0), L37_2 (0) (x0), []) := by kernel_rfl
theorem p37_1 (v7 : Int) (x0 : List (ByteArray × ByteArray × ByteArray × Unit)) : runF tab ext37 false 33 [] 2000 [] tys37 Try.f37.results [true, true, true] (cutAt b37 2) (E37_2 v7 x0) (L37_2 v7 x0) = some ([Dyn.mk Ty.bool Bool.false], [], [Decidable.decide (v7 < (↑(List.length x0) : Int)) = Bool.true, 0 ≤ v7, v7 < (↑(List.length x0) : Int), P84 (List.getD x0 (Int.toNat v7) (ByteArray.empty, ByteArray.empty, ByteArray.empty, ())), (!g84_0 (List.getD x0 (Int.toNat v7) (ByteArray.empty, ByteArray.empty, ByteArray.empty, ()))) = Bool.true, Bool.true = Bool.true]) := by kernel_rfl
theorem p37_2 (v7 : Int) (x0 : List (ByteArray × ByteArray × ByteArray × Unit)) : runF tab ext37 false 33 [] 2000 [] tys37 Try.f37.results [true, false, true, true] (cutAt b37 2) (E37_2 v7 x0) (L37_2 v7 x0) = some ([Dyn.mk Ty.bool Bool.false], [], [Decidable.decide (v7 < (↑(List.length x0) : Int)) = Bool.true, 0 ≤ v7, v7 < (↑(List.length x0) : Int), P84 (List.getD x0 (Int.toNat v7) (ByteArray.empty, ByteArray.empty, ByteArray.empty, ())), (!g84_0 (List.getD x0 (Int.toNat v7) (ByteArray.empty, ByteArray.empty, ByteArray.empty, ()))) = Bool.false, Decidable.decide (v7 > 0) = Bool.true, InR IntKind.i64 (v7 - 1), 0 ≤ v7 - 1, v7 - 1 < (↑(List.length x0) : Int), True, Decidable.decide (g85_0 (List.getD x0 (Int.toNat (v7 - 1)) (ByteArray.empty, ByteArray.empty, ByteArray.empty, ())) (List.getD x0 (Int.toNat v7) (ByteArray.empty, ByteArray.empty, ByteArray.empty, ())) ≥ 0) = Bool.true]) := by kernel_rfl
theorem p37_3 (v7 : Int) (x0 : List (ByteArray × ByteArray × ByteArray × Unit)) : Am.runN tab ext37 false 33 [] 2000 [] [] [0, 5, 6, 7] [] [true, false, true, false] (cutAt b37 2) (E37_2 v7 x0) (L37_2 v7 x0) = some (cutAt b37 2, E37_2 (v7 + 1) (x0), L37_2 (v7 + 1) (x0), [Decidable.decide (v7 < (↑(List.length x0) : Int)) = Bool.true, 0 ≤ v7, v7 < (↑(List.length x0) : Int), P84 (List.getD x0 (Int.toNat v7) (ByteArray.empty, ByteArray.empty, ByteArray.empty, ())), (!g84_0 (List.getD x0 (Int.toNat v7) (ByteArray.empty, ByteArray.empty, ByteArray.empty, ()))) = Bool.false, Decidable.decide (v7 > 0) = Bool.true, InR IntKind.i64 (v7 - 1), 0 ≤ v7 - 1, v7 - 1 < (↑(List.length x0) : Int), True, Decidable.decide (g85_0 (List.getD x0 (Int.toNat (v7 - 1)) (ByteArray.empty, ByteArray.empty, ByteArray.empty, ())) (List.getD x0 (Int.toNat v7) (ByteArray.empty, ByteArray.empty, ByteArray.empty, ())) ≥ 0) = Bool.false, InR IntKind.i64 (v7 + 1)]) := by kernel_rfl
theorem p37_4 (v7 : Int) (x0 : List (ByteArray × ByteArray × ByteArray × Unit)) : Am.runN tab ext37 false 33 [] 2000 [] [] [0, 5, 6, 7] [] [true, false, false, false] (cutAt b37 2) (E37_2 v7 x0) (L37_2 v7 x0) = some (cutAt b37 2, E37_2 (v7 + 1) (x0), L37_2 (v7 + 1) (x0), [Decidable.decide (v7 < (↑(List.length x0) : Int)) = Bool.true, 0 ≤ v7, v7 < (↑(List.length x0) : Int), P84 (List.getD x0 (Int.toNat v7) (ByteArray.empty, ByteArray.empty, ByteArray.empty, ())), (!g84_0 (List.getD x0 (Int.toNat v7) (ByteArray.empty, ByteArray.empty, ByteArray.empty, ()))) = Bool.false, Decidable.decide (v7 > 0) = Bool.false, Bool.false = Bool.false, InR IntKind.i64 (v7 + 1)]) := by kernel_rfl
theorem p37_5 (v7 : Int) (x0 : List (ByteArray × ByteArray × ByteArray × Unit)) : runF tab ext37 false 33 [] 2000 [] tys37 Try.f37.results [false] (cutAt b37 2) (E37_2 v7 x0) (L37_2 v7 x0) = some ([Dyn.mk Ty.bool (Decidable.decide ((↑(List.length x0) : Int) ≤ 32))], [], [Decidable.decide (v7 < (↑(List.length x0) : Int)) = Bool.false]) := by kernel_rfl
theorem snd37 : ∀ n, (∀ (x0 : List (ByteArray × ByteArray × ByteArray × Unit)) ds, R37 n x0 ds → ∀ w0 O q, AtV Try.prog 37 (PostR ds [] [] q w0 O) 33 w0 O q [] [.code b37] (entE 0 0 sig37 (x0, ())) (entL sig37 (x0, ()))) ∧ (∀ (v7 : Int) (x0 : List (ByteArray × ByteArray × ByteArray × Unit)) ds, R37_2 n v7 x0 ds → ∀ w0 O q, AtV Try.prog 37 (PostR ds [] [] q w0 O) 33 w0 O q [] (cutAt b37 2) (E37_2 v7 x0) (L37_2 v7 x0)) := by
  intro n
  induction n with
  | zero => exact ⟨fun _ _ h => by simp only [R37] at h, fun _ _ _ h => by simp only [R37_2] at h⟩
  | succ n ih =>
  obtain ⟨ih, ih2⟩ := ih
  refine ⟨?_, ?_⟩
  · intro x0 ds h w0 O q
    rw [R37] at h
    exact AtV.runN tabOk ext37Ok mixed (p37_0 x0) trivial (ih2 _ _ _ h w0 O q)

  · intro v7 x0 ds h w0 O q
    rw [R37_2] at h
    by_cases b0 : (Decidable.decide (v7 < (↑(List.length x0) : Int))) = true
    · rw [if_pos b0] at h
      obtain ⟨s0, s1, h⟩ := h
      obtain ⟨s2, h⟩ := h
      by_cases b1 : (!g84_0 (List.getD x0 (Int.toNat v7) (ByteArray.empty, ByteArray.empty, ByteArray.empty, ()))) = true
      · rw [if_pos b1] at h
        subst h
        exact AtV.fin Try.func37 tabOk ext37Ok mixed (p37_1 v7 x0) ⟨b0, s0, s1, s2, b1, rfl, trivial⟩
      · rw [if_neg b1] at h
        replace b1 := Bool.eq_false_iff.2 b1
        by_cases b2 : (Decidable.decide (v7 > 0)) = true
        · rw [if_pos b2] at h
          obtain ⟨s3, h⟩ := h
          obtain ⟨s4, s5, h⟩ := h
          by_cases b3 : (Decidable.decide (g85_0 (List.getD x0 (Int.toNat (v7 - 1)) (ByteArray.empty, ByteArray.empty, ByteArray.empty, ())) (List.getD x0 (Int.toNat v7) (ByteArray.empty, ByteArray.empty, ByteArray.empty, ())) ≥ 0)) = true
          · rw [if_pos b3] at h
            subst h
            exact AtV.fin Try.func37 tabOk ext37Ok mixed (p37_2 v7 x0) ⟨b0, s0, s1, s2, b1, b2, s3, s4, s5, trivial, b3, trivial⟩
          · rw [if_neg b3] at h
            replace b3 := Bool.eq_false_iff.2 b3
            obtain ⟨s6, h⟩ := h
            exact AtV.runN tabOk ext37Ok mixed (p37_3 v7 x0) ⟨b0, s0, s1, s2, b1, b2, s3, s4, s5, trivial, b3, s6, trivial⟩ (ih2 _ _ _ h w0 O q)
        · rw [if_neg b2] at h
          replace b2 := Bool.eq_false_iff.2 b2
          obtain ⟨s3, h⟩ := h
          exact AtV.runN tabOk ext37Ok mixed (p37_4 v7 x0) ⟨b0, s0, s1, s2, b1, b2, rfl, s3, trivial⟩ (ih2 _ _ _ h w0 O q)
    · rw [if_neg b0] at h
      replace b0 := Bool.eq_false_iff.2 b0
      subst h
      exact AtV.fin Try.func37 tabOk ext37Ok mixed (p37_5 v7 x0) ⟨b0, trivial⟩



/-- A block at its place. -/
def ok37 (x0 : List (ByteArray × ByteArray × ByteArray × Unit)) (i : Nat) (x : ByteArray × ByteArray × ByteArray × Unit) : Bool :=
  g84_0 x && (i == 0 || !decide (g85_0 (x0.getD (i - 1) (ByteArray.empty, ByteArray.empty, ByteArray.empty, ())) x ≥ 0))
def g37_0 (x0 : List (ByteArray × ByteArray × ByteArray × Unit)) : Bool := allI (ok37 x0) 0 x0 && decide (x0.length ≤ 32)
def P37 (x0 : List (ByteArray × ByteArray × ByteArray × Unit)) : Prop := True

theorem step37 (n i : Nat) (x0 : List (ByteArray × ByteArray × ByteArray × Unit)) (hm : x0.length ≤ maxLen) (hi : i < x0.length) (ds : List Dyn) :
    (if ok37 x0 i (x0.getD i (ByteArray.empty, ByteArray.empty, ByteArray.empty, ())) = true then R37_2 n ((i : Int) + 1) x0 ds else ds = [⟨.bool, false⟩]) → R37_2 (n + 1) (i : Int) x0 ds := by
  intro h
  have hu := inR_up hm hi
  rw [R37_2, if_pos (by simp; omega)]
  refine ⟨by omega, by omega, ?_⟩
  simp only [Int.toNat_natCast]
  unfold ok37 at h
  refine ⟨pre84 _, ?_⟩
  by_cases h1 : g84_0 (x0.getD i (ByteArray.empty, ByteArray.empty, ByteArray.empty, ())) = true
  case neg =>
    have h1 := Bool.eq_false_iff.2 h1
    rw [h1] at h
    rw [if_pos (by rw [h1]; rfl)]
    simpa using h
  case pos =>
    rw [h1] at h
    rw [if_neg (by rw [h1]; simp)]
    by_cases h0 : (i : Int) > 0
    · rw [if_pos (by simpa using h0)]
      have hi0 : (i == 0) = false := by simp; omega
      have e : ((i : Int) - 1).toNat = i - 1 := by omega
      refine ⟨by rw [i64_iff]; have : maxLen ≤ 9223372036854775807 := by decide
                 omega, by omega, by omega, ?_⟩
      rw [e]
      by_cases h2 : g85_0 (x0.getD (i - 1) (ByteArray.empty, ByteArray.empty, ByteArray.empty, ())) (x0.getD i (ByteArray.empty, ByteArray.empty, ByteArray.empty, ())) ≥ 0
      · rw [if_pos (by simpa using h2)]
        rw [hi0, decide_eq_true h2] at h
        simpa using h
      · rw [if_neg (by simpa using h2)]
        rw [hi0, decide_eq_false h2] at h
        exact ⟨hu, by simpa using h⟩
    · rw [if_neg (by simpa using h0)]
      have hi0 : (i == 0) = true := by simp; omega
      rw [hi0] at h
      exact ⟨hu, by simpa using h⟩

theorem top37 (x0 : List (ByteArray × ByteArray × ByteArray × Unit)) (hw : x0.length ≤ maxLen) : R37 (x0.length + 1 + 1) x0 [⟨.bool, g37_0 x0⟩] := by
  rw [R37]
  have key := loop_testI x0 (ByteArray.empty, ByteArray.empty, ByteArray.empty, ()) (ok37 x0) [(⟨.bool, false⟩ : Dyn)] [⟨.bool, decide (x0.length ≤ 32)⟩] (fun n i ds => R37_2 n i x0 ds) (fun n => ?_) (fun n i hi hok ds hr => ?_) (fun n i hi hok => ?_)
  · unfold g37_0
    cases h : allI (ok37 x0) 0 x0 with
    | true => rw [if_pos h] at key; simpa using key
    | false => rw [if_neg (by rw [h]; simp)] at key; simpa using key
  · rw [R37_2, if_neg (by simp)]
    have hc : decide ((x0.length : Int) ≤ 32) = decide (x0.length ≤ 32) := by
      congr 1; exact propext ⟨fun h => by omega, fun h => by omega⟩
    rw [hc]
  · exact step37 n i x0 hw hi ds (by rw [if_pos hok]; exact hr)
  · exact step37 n i x0 hw hi _ (by rw [if_neg (by rw [hok]; simp)])

def S37 : Am.Spec := { sig := sig37, pre := fun ⟨x0, _⟩ => P37 x0, res := fun ⟨x0, _⟩ => [⟨Ty.bool, g37_0 x0⟩] }
theorem con37 : Contract Try.prog 37 S37 := contract_of Try.func37 hb37 (Nat.le_of_ble_eq_true (by kernel_rfl)) (fun ⟨x0, _⟩ h hwf w0 O q =>
  (snd37 _).1 x0 _ (top37 x0 hwf.1.1) w0 O q)

end Go.Proofs.Ytjkeinpcphkfbaa

/- Function 126 (slices.BinarySearchFunc[[]impl.Block,impl.Block,impl.Block]): its runs between cut points. Written by a program of this repo (gen). -/
set_option linter.unusedVariables false
set_option linter.unusedSimpArgs false
set_option maxRecDepth 100000
namespace Go.Proofs.Ytjkeinpcphkfbaa
open Go Go.Am Go.Proofs
def ext126c85 : Ext := [(85, S85)]
theorem call126c85_85 : Callable Try.prog 85 := ⟨Try.f85, Try.func85, by kernel_rfl, by kernel_rfl⟩
theorem ext126c85Ok : ExtOk Try.prog ext126c85 := ⟨⟨call126c85_85, con85⟩, trivial⟩
/-! Function 126c85. -/
noncomputable def b126c85 : Code := bodyOf Try.f126
theorem hb126c85 : Try.f126.body = some b126c85 := by kernel_rfl
def sig126c85 : List AT := [AT.v (Ty.sl (Ty.cons Ty.str (Ty.cons Ty.str (Ty.cons Ty.str Ty.unit)))), AT.v (Ty.cons Ty.str (Ty.cons Ty.str (Ty.cons Ty.str Ty.unit))), AT.fn 85 []]
def tys126c85 : List Ty := [Ty.int IntKind.i64, Ty.bool]
def E126c85_3 (v9 : Int) (v10 : Int) (x0 : List (ByteArray × ByteArray × ByteArray × Unit)) (x1 : ByteArray × ByteArray × ByteArray × Unit) : Env := [(0, PV.a (Atom.sl (Ty.cons Ty.str (Ty.cons Ty.str (Ty.cons Ty.str Ty.unit))) x0)), (2, PV.fn 85 []), (4, PV.a (Atom.optr 0 0 [])), (8, PV.a (Atom.val (Value.int IntKind.i64 (↑(List.length x0) : Int)))), (9, PV.a (Atom.val (Value.int IntKind.i64 v9))), (10, PV.a (Atom.val (Value.int IntKind.i64 v10)))]
def L126c85_3 (v9 : Int) (v10 : Int) (x0 : List (ByteArray × ByteArray × ByteArray × Unit)) (x1 : ByteArray × ByteArray × ByteArray × Unit) : Heap := [Option.some (Arr.mk (Ty.cons Ty.str (Ty.cons Ty.str (Ty.cons Ty.str Ty.unit))) [x1] Bool.true)]
mutual
def R126c85 : Nat → List (ByteArray × ByteArray × ByteArray × Unit) → ByteArray × ByteArray × ByteArray × Unit → List Dyn → Prop
  | 0, _, _, _ => False
  | n + 1, x0, x1, ds => (R126c85_3 n (0) ((↑(List.length x0) : Int)) (x0) (x1) ds)
def R126c85_3 : Nat → Int → Int → List (ByteArray × ByteArray × ByteArray × Unit) → ByteArray × ByteArray × ByteArray × Unit → List Dyn → Prop
  | 0, _, _, _, _, _ => False
  | n + 1, v9, v10, x0, x1, ds => (if (Decidable.decide (v9 < v10)) = true then ((InR IntKind.i64 (v9 + v10)) ∧ ((InR IntKind.u64 (v9 + v10)) ∧ ((InR IntKind.u64 (Int.fdiv (v9 + v10) 2)) ∧ ((InR IntKind.i64 (Int.fdiv (v9 + v10) 2)) ∧ ((0 ≤ Int.fdiv (v9 + v10) 2) ∧ (Int.fdiv (v9 + v10) 2 < (↑(List.length x0) : Int)) ∧ (if (Decidable.decide (g85_0 (List.getD x0 (Int.toNat (Int.fdiv (v9 + v10) 2)) (ByteArray.empty, ByteArray.empty, ByteArray.empty, ())) x1 < 0)) = true then ((InR IntKind.i64 (Int.fdiv (v9 + v10) 2 + 1)) ∧ (R126c85_3 n (Int.fdiv (v9 + v10) 2 + 1) (v10) (x0) (x1) ds)) else (R126c85_3 n (v9) (Int.fdiv (v9 + v10) 2) (x0) (x1) ds))))))) else (if (Decidable.decide (v9 < (↑(List.length x0) : Int))) = true then ((0 ≤ v9) ∧ (v9 < (↑(List.length x0) : Int)) ∧ (ds = [Dyn.mk (Ty.int IntKind.i64) v9, Dyn.mk Ty.bool (g85_0 (List.getD x0 (Int.toNat v9) (ByteArray.empty, ByteArray.empty, ByteArray.empty, ())) x1 == 0)])) else (ds = [Dyn.mk (Ty.int IntKind.i64) v9, Dyn.mk Ty.bool Bool.false])))
end
theorem p126c85_0 (x0 : List (ByteArray × ByteArray × ByteArray × Unit)) (x1 : ByteArray × ByteArray × ByteArray × Unit) : Am.runN tab ext126c85 false 49 [] 2000 [] [] [0, 2, 4, 8, 9, 10] [true] [] [.code b126c85] (entE 0 0 sig126c85 (x0, x1, (), ())) (entL sig126c85 (x0, x1, (), ())) = some (cutAt b126c85 3, E126c85_3 (0) ((↑(List.length x0) : Int)) (x0) (x1), L126c85_3 (0) ((↑(List.length x0) : Int)) (x0) (x1), []) := by kernel_rfl
theorem p126c85_1 (v9 : Int) (v10 : Int) (x0 : List (ByteArray × ByteArray × ByteArray × Unit)) (x1 : ByteArray × ByteArray × ByteArray × Unit) : Am.runN tab ext126c85 false 49 [] 2000 [] [] [0, 2, 4, 8, 9, 10] [true] [true, true] (cutAt b126c85 3) (E126c85_3 v9 v10 x0 x1) (L126c85_3 v9 v10 x0 x1) = some (cutAt b126c85 3, E126c85_3 (Int.fdiv (v9 + v10) 2 + 1) (v10) (x0) (x1), L126c85_3 (Int.fdiv (v9 + v10) 2 + 1) (v10) (x0) (x1), [Decidable.decide (v9 < v10) = Bool.true, InR IntKind.i64 (v9 + v10), InR IntKind.u64 (v9 + v10), (0 : Int) ≤ (1 : Int), InR IntKind.u64 (Int.fdiv (v9 + v10) 2), InR IntKind.i64 (Int.fdiv (v9 + v10) 2), 0 ≤ Int.fdiv (v9 + v10) 2, Int.fdiv (v9 + v10) 2 < (↑(List.length x0) : Int), True, Decidable.decide (g85_0 (List.getD x0 (Int.toNat (Int.fdiv (v9 + v10) 2)) (ByteArray.empty, ByteArray.empty, ByteArray.empty, ())) x1 < 0) = Bool.true, InR IntKind.i64 (Int.fdiv (v9 + v10) 2 + 1)]) := by kernel_rfl
theorem p126c85_2 (v9 : Int) (v10 : Int) (x0 : List (ByteArray × ByteArray × ByteArray × Unit)) (x1 : ByteArray × ByteArray × ByteArray × Unit) : Am.runN tab ext126c85 false 49 [] 2000 [] [] [0, 2, 4, 8, 9, 10] [true] [true, false] (cutAt b126c85 3) (E126c85_3 v9 v10 x0 x1) (L126c85_3 v9 v10 x0 x1) = some (cutAt b126c85 3, E126c85_3 (v9) (Int.fdiv (v9 + v10) 2) (x0) (x1), L126c85_3 (v9) (Int.fdiv (v9 + v10) 2) (x0) (x1), [Decidable.decide (v9 < v10) = Bool.true, InR IntKind.i64 (v9 + v10), InR IntKind.u64 (v9 + v10), (0 : Int) ≤ (1 : Int), InR IntKind.u64 (Int.fdiv (v9 + v10) 2), InR IntKind.i64 (Int.fdiv (v9 + v10) 2), 0 ≤ Int.fdiv (v9 + v10) 2, Int.fdiv (v9 + v10) 2 < (↑(List.length x0) : Int), True, Decidable.decide (g85_0 (List.getD x0 (Int.toNat (Int.fdiv (v9 + v10) 2)) (ByteArray.empty, ByteArray.empty, ByteArray.empty, ())) x1 < 0) = Bool.false]) := by kernel_rfl
theorem p126c85_3 (v9 : Int) (v10 : Int) (x0 : List (ByteArray × ByteArray × ByteArray × Unit)) (x1 : ByteArray × ByteArray × ByteArray × Unit) : runF tab ext126c85 false 49 [] 2000 [] tys126c85 Try.f126.results [false, true] (cutAt b126c85 3) (E126c85_3 v9 v10 x0 x1) (L126c85_3 v9 v10 x0 x1) = some ([Dyn.mk (Ty.int IntKind.i64) v9, Dyn.mk Ty.bool (g85_0 (List.getD x0 (Int.toNat v9) (ByteArray.empty, ByteArray.empty, ByteArray.empty, ())) x1 == 0)], [], [Decidable.decide (v9 < v10) = Bool.false, Decidable.decide (v9 < (↑(List.length x0) : Int)) = Bool.true, 0 ≤ v9, v9 < (↑(List.length x0) : Int), True]) := by kernel_rfl
theorem p126c85_4 (v9 : Int) (v10 : Int) (x0 : List (ByteArray × ByteArray × ByteArray × Unit)) (x1 : ByteArray × ByteArray × ByteArray × Unit) : runF tab ext126c85 false 49 [] 2000 [] tys126c85 Try.f126.results [false, false] (cutAt b126c85 3) (E126c85_3 v9 v10 x0 x1) (L126c85_3 v9 v10 x0 x1) = some ([Dyn.mk (Ty.int IntKind.i64) v9, Dyn.mk Ty.bool Bool.false], [], [Decidable.decide (v9 < v10) = Bool.false, Decidable.decide (v9 < (↑(List.length x0) : Int)) = Bool.false]) := by kernel_rfl
theorem snd126c85 : ∀ n, (∀ (x0 : List (ByteArray × ByteArray × ByteArray × Unit)) (x1 : ByteArray × ByteArray × ByteArray × Unit) ds, R126c85 n x0 x1 ds → ∀ w0 O q, AtV Try.prog 126 (PostR ds [] [] q w0 O) 49 w0 O q [] [.code b126c85] (entE 0 0 sig126c85 (x0, x1, (), ())) (entL sig126c85 (x0, x1, (), ()))) ∧ (∀ (v9 : Int) (v10 : Int) (x0 : List (ByteArray × ByteArray × ByteArray × Unit)) (x1 : ByteArray × ByteArray × ByteArray × Unit) ds, R126c85_3 n v9 v10 x0 x1 ds → ∀ w0 O q, AtV Try.prog 126 (PostR ds [] [] q w0 O) 49 w0 O q [] (cutAt b126c85 3) (E126c85_3 v9 v10 x0 x1) (L126c85_3 v9 v10 x0 x1)) := by
  intro n
  induction n with
  | zero => exact ⟨fun _ _ _ h => by simp only [R126c85] at h, fun _ _ _ _ _ h => by simp only [R126c85_3] at h⟩
  | succ n ih =>
  obtain ⟨ih, ih3⟩ := ih
  refine ⟨?_, ?_⟩
  · intro x0 x1 ds h w0 O q
    rw [R126c85] at h
    exact AtV.runN tabOk ext126c85Ok mixed (p126c85_0 x0 x1) trivial (ih3 _ _ _ _ _ h w0 O q)

  · intro v9 v10 x0 x1 ds h w0 O q
    rw [R126c85_3] at h
    by_cases b0 : (Decidable.decide (v9 < v10)) = true
    · rw [if_pos b0] at h
      obtain ⟨s0, h⟩ := h
      obtain ⟨s1, h⟩ := h
      obtain ⟨s2, h⟩ := h
      obtain ⟨s3, h⟩ := h
      obtain ⟨s4, s5, h⟩ := h
      by_cases b1 : (Decidable.decide (g85_0 (List.getD x0 (Int.toNat (Int.fdiv (v9 + v10) 2)) (ByteArray.empty, ByteArray.empty, ByteArray.empty, ())) x1 < 0)) = true
      · rw [if_pos b1] at h
        obtain ⟨s6, h⟩ := h
        exact AtV.runN tabOk ext126c85Ok mixed (p126c85_1 v9 v10 x0 x1) ⟨b0, s0, s1, (by decide), s2, s3, s4, s5, trivial, b1, s6, trivial⟩ (ih3 _ _ _ _ _ h w0 O q)
      · rw [if_neg b1] at h
        replace b1 := Bool.eq_false_iff.2 b1
        exact AtV.runN tabOk ext126c85Ok mixed (p126c85_2 v9 v10 x0 x1) ⟨b0, s0, s1, (by decide), s2, s3, s4, s5, trivial, b1, trivial⟩ (ih3 _ _ _ _ _ h w0 O q)
    · rw [if_neg b0] at h
      replace b0 := Bool.eq_false_iff.2 b0
      by_cases b1 : (Decidable.decide (v9 < (↑(List.length x0) : Int))) = true
      · rw [if_pos b1] at h
        obtain ⟨s0, s1, h⟩ := h
        subst h
        exact AtV.fin Try.func126 tabOk ext126c85Ok mixed (p126c85_3 v9 v10 x0 x1) ⟨b0, b1, s0, s1, trivial, trivial⟩
      · rw [if_neg b1] at h
        replace b1 := Bool.eq_false_iff.2 b1
        subst h
        exact AtV.fin Try.func126 tabOk ext126c85Ok mixed (p126c85_4 v9 v10 x0 x1) ⟨b0, b1, trivial⟩



def p126c85 (x0 : List (ByteArray × ByteArray × ByteArray × Unit)) (x1 : ByteArray × ByteArray × ByteArray × Unit) (h : Nat) : Bool := decide (g85_0 (x0.getD h (ByteArray.empty, ByteArray.empty, ByteArray.empty, ())) x1 < 0)
/-- Where the search comes to. -/
def k126c85 (x0 : List (ByteArray × ByteArray × ByteArray × Unit)) (x1 : ByteArray × ByteArray × ByteArray × Unit) : Nat := bsearch (p126c85 x0 x1) (x0.length + 1) 0 x0.length
def f126c85 (x0 : List (ByteArray × ByteArray × ByteArray × Unit)) (x1 : ByteArray × ByteArray × ByteArray × Unit) (k : Nat) : Bool := if k < x0.length then g85_0 (x0.getD k (ByteArray.empty, ByteArray.empty, ByteArray.empty, ())) x1 == 0 else false
def g126c85_0 (x0 : List (ByteArray × ByteArray × ByteArray × Unit)) (x1 : ByteArray × ByteArray × ByteArray × Unit) : Int := (k126c85 x0 x1 : Nat)
def g126c85_1 (x0 : List (ByteArray × ByteArray × ByteArray × Unit)) (x1 : ByteArray × ByteArray × ByteArray × Unit) : Bool := f126c85 x0 x1 (k126c85 x0 x1)
def P126c85 (x0 : List (ByteArray × ByteArray × ByteArray × Unit)) (x1 : ByteArray × ByteArray × ByteArray × Unit) : Prop := x0.length ≤ 4611686018427387903

theorem u64_iff (n : Int) : InR .u64 n ↔ 0 ≤ n ∧ n ≤ 18446744073709551615 := by
  have e1 : (IntKind.u64).min = 0 := by decide
  have e2 : (IntKind.u64).max = 18446744073709551615 := by decide
  simp only [InR, e1, e2]

theorem run126c85 (x0 : List (ByteArray × ByteArray × ByteArray × Unit)) (x1 : ByteArray × ByteArray × ByteArray × Unit) (hm : x0.length ≤ 4611686018427387903) : ∀ (k i j : Nat), j - i < k → i ≤ j → j ≤ x0.length →
    R126c85_3 k (i : Int) (j : Int) x0 x1 [⟨.int .i64, ((bsearch (p126c85 x0 x1) k i j : Nat) : Int)⟩, ⟨.bool, f126c85 x0 x1 (bsearch (p126c85 x0 x1) k i j)⟩] := by
  intro k
  induction k with
  | zero => intro i j h; omega
  | succ k ih =>
    intro i j h hij hj
    rw [R126c85_3]
    by_cases hlt : i < j
    · rw [if_pos (by simpa using hlt)]
      have e : Int.fdiv ((i : Int) + (j : Int)) 2 = (((i + j) / 2 : Nat) : Int) := by
        rw [Int.fdiv_eq_ediv_of_nonneg _ (by omega)]
        omega
      rw [e]
      simp only [Int.toNat_natCast, i64_iff, u64_iff]
      refine ⟨by omega, by omega, by omega, by omega, by omega, by omega, ?_⟩
      simp only [bsearch, if_pos hlt]
      by_cases hp : p126c85 x0 x1 ((i + j) / 2) = true
      · rw [if_pos hp, if_pos (by exact hp)]
        refine ⟨by omega, ?_⟩
        exact ih ((i + j) / 2 + 1) j (by omega) (by omega) hj
      · rw [if_neg hp, if_neg (by exact hp)]
        exact ih i ((i + j) / 2) (by omega) (by omega) (by omega)
    · rw [if_neg (by simpa using hlt)]
      simp only [bsearch, if_neg hlt, f126c85]
      by_cases hl : i < x0.length
      · rw [if_pos (by simpa using hl)]
        refine ⟨by omega, by omega, ?_⟩
        simp [hl]
      · rw [if_neg (by simpa using hl)]
        simp [hl]

def S126c85 : Am.Spec := { sig := sig126c85, pre := fun ⟨x0, x1, _⟩ => P126c85 x0 x1, res := fun ⟨x0, x1, _⟩ => [⟨Ty.int .i64, g126c85_0 x0 x1⟩, ⟨Ty.bool, g126c85_1 x0 x1⟩] }
theorem con126c85 : Contract Try.prog 126 S126c85 := contract_of Try.func126 hb126c85 (Nat.le_of_ble_eq_true (by kernel_rfl)) (fun ⟨x0, x1, _⟩ h hwf w0 O q =>
  (snd126c85 (x0.length + 1 + 1)).1 x0 x1 _ (by rw [R126c85]; exact run126c85 x0 x1 h (x0.length + 1) 0 x0.length (by omega) (by omega) (Nat.le_refl _)) w0 O q)

end Go.Proofs.Ytjkeinpcphkfbaa

/- Function 94 (impl.blockAt): its runs between cut points. Written by a program of this repo (gen). -/
set_option linter.unusedVariables false
set_option linter.unusedSimpArgs false
set_option maxRecDepth 100000
namespace Go.Proofs.Ytjkeinpcphkfbaa
open Go Go.Am Go.Proofs
def ext94 : Ext := [(126, S126c85)]
theorem call94_126 : Callable Try.prog 126 := ⟨Try.f126, Try.func126, by kernel_rfl, by kernel_rfl⟩
theorem ext94Ok : ExtOk Try.prog ext94 := ⟨⟨call94_126, con126c85⟩, trivial⟩
/-! Function 94. -/
noncomputable def b94 : Code := bodyOf Try.f94
theorem hb94 : Try.f94.body = some b94 := by kernel_rfl
def sig94 : List AT := [AT.v (Ty.sl (Ty.cons Ty.str (Ty.cons Ty.str (Ty.cons Ty.str Ty.unit)))), AT.v (Ty.cons Ty.str (Ty.cons Ty.str (Ty.cons Ty.str Ty.unit)))]
def tys94 : List Ty := [Ty.int IntKind.i64, Ty.bool]
def P94 (x0 : List (ByteArray × ByteArray × ByteArray × Unit)) (x1 : ByteArray × ByteArray × ByteArray × Unit) : Prop := ((P126c85 x0 x1) ∧ True)
def g94_0 (x0 : List (ByteArray × ByteArray × ByteArray × Unit)) (x1 : ByteArray × ByteArray × ByteArray × Unit) : Int := g126c85_0 x0 x1
def g94_1 (x0 : List (ByteArray × ByteArray × ByteArray × Unit)) (x1 : ByteArray × ByteArray × ByteArray × Unit) : Bool := g126c85_1 x0 x1
theorem p94_0 (x0 : List (ByteArray × ByteArray × ByteArray × Unit)) (x1 : ByteArray × ByteArray × ByteArray × Unit) : runF tab ext94 false 11 [] 2000 [] tys94 Try.f94.results [] [.code b94] (entE 0 0 sig94 (x0, x1, ())) (entL sig94 (x0, x1, ())) = some ([Dyn.mk (Ty.int IntKind.i64) (g126c85_0 x0 x1), Dyn.mk Ty.bool (g126c85_1 x0 x1)], [], [P126c85 x0 x1]) := by kernel_rfl
theorem at94 (x0 : List (ByteArray × ByteArray × ByteArray × Unit)) (x1 : ByteArray × ByteArray × ByteArray × Unit) (h : P94 x0 x1) (w0 : World) (O : List Nat) (q : Nat → Value) : AtV Try.prog 94 (PostR [⟨Ty.int IntKind.i64, g94_0 x0 x1⟩, ⟨Ty.bool, g94_1 x0 x1⟩] [] [] q w0 O) 11 w0 O q [] [.code b94] (entE 0 0 sig94 (x0, x1, ())) (entL sig94 (x0, x1, ())) := by
  unfold P94 at h
  unfold g94_0 g94_1
  obtain ⟨s0, h⟩ := h
  exact AtV.fin Try.func94 tabOk ext94Ok mixed (p94_0 x0 x1) ⟨s0, trivial⟩

def S94 : Am.Spec := { sig := sig94, pre := fun ⟨x0, x1, _⟩ => P94 x0 x1, res := fun ⟨x0, x1, _⟩ => [⟨Ty.int IntKind.i64, g94_0 x0 x1⟩, ⟨Ty.bool, g94_1 x0 x1⟩] }
theorem con94 : Contract Try.prog 94 S94 := contract_of Try.func94 hb94 (Nat.le_of_ble_eq_true (by kernel_rfl)) (fun ⟨x0, x1, _⟩ h _ w0 O q => at94 x0 x1 h w0 O q)


end Go.Proofs.Ytjkeinpcphkfbaa

/- Function 96 (slices.Clone[[]impl.Block,impl.Block]): its contract, off what is known of the library. -/
set_option linter.unusedVariables false
set_option linter.unusedSimpArgs false
set_option maxRecDepth 100000
namespace Go.Proofs.Ytjkeinpcphkfbaa
open Go Go.Am Go.Proofs

set_option maxHeartbeats 2000000 in
theorem nil96 (w : World) : Calls Try.prog 96 #[.slice none 0 0] w fun e w' => e = .returned (.slice none 0 0) ∧ w' = w := by
  have mixed := mixed
  have q22 : ∀ (w : World) (a : Option Addr) (n c n' c' : Nat), (binOp .eql 49 (.slice a n c) (.slice none n' c')).run Try.prog w = .ok (.bool a.isNone) w := fun w a n c n' c' => Lib.run_eql_slice_nil w _ _ a n c n' c' Try.underlying49
  go_enter Try.func96, Try.ntmps96
  go_wp2
  go_ret
  exact ⟨rfl, rfl⟩

set_option maxHeartbeats 4000000 in
theorem some96 (w : World) (a : Addr) (n c : Nat) (news : List Value) (hl : news.length = n * (Ty.size (Ty.cons Ty.str (Ty.cons Ty.str (Ty.cons Ty.str Ty.unit))))) (hn : n ≤ 1048576) (hc : ∀ (j : Nat) (u : Value), news[j]? = some u → w.cell? (a.add j) = some u) (h1 : ∀ u ∈ news, u.oneCell' = true) :
    Calls Try.prog 96 #[.slice (some a) n c] w fun r w' => ∃ v', r = .returned v' ∧ w'.ownsRow w.heap.size 80 (Ty.size (Ty.cons Ty.str (Ty.cons Ty.str (Ty.cons Ty.str Ty.unit)))) v' n news ∧ Go.RowKit.Below w.heap.size w w' := by
  have mixed := mixed
  have q22 : ∀ (w : World) (a : Option Addr) (n c n' c' : Nat), (binOp .eql 49 (.slice a n c) (.slice none n' c')).run Try.prog w = .ok (.bool a.isNone) w := fun w a n c n' c' => Lib.run_eql_slice_nil w _ _ a n c n' c' Try.underlying49
  have hinfo : TIOk Try.prog 49 (tabGet tab 49) := tabOk 49
  obtain ⟨_, _, ⟨_, ⟨i0, hi0, hz1, z, hz0, hzs, _⟩⟩, hby⟩ := hinfo
  rw [hi0] at hby
  simp only [Option.map_some, Option.some.injEq] at hby
  have hzs' : z.cells.size = Ty.size (Ty.cons Ty.str (Ty.cons Ty.str (Ty.cons Ty.str Ty.unit))) := by rw [← Array.length_toList, hzs]; rfl
  have A : Aside (∀ (j : Nat) (u : Value), news[j]? = some u → w.cell? (a.add j) = some u) := hc
  clear hc
  go_enter Try.func96, Try.ntmps96
  go_wp2_with (at_builtin; refine wpList_append_own _ rfl _ _ 49 rfl w.heap.size 80 i0 z (Ty.size (Ty.cons Ty.str (Ty.cons Ty.str (Ty.cons Ty.str Ty.unit)))) i0.bytes Try.underlying49 hi0 hz0 hz1 rfl hzs' (by decide) _ _ _ rfl (World.ownsRow_made w #[] 0 (Nat.le_refl _) (Nat.zero_le _) (by simp)) a n c news rfl ?qc1 ?qc2 ?qc3 ?qc4 ?qc5 ?qc6 ?_)
  case qc1 => exact hl
  case qc2 => intro j u hj; exact Lib.cell?_alloc_some _ (A.out j u hj)
  case qc3 => exact h1
  case qc4 => unfold maxLen; omega
  case qc5 => rw [hby]; omega
  case qc6 => simp
  intro v' w1 hown hgrow hnil
  go_wp2
  go_ret
  exact ⟨v', rfl, by simpa using hown, ((Go.RowKit.Below.refl _ w).alloc (Nat.le_refl _) _).grown hgrow (by simp) (by intro k hk; simp [Value.ownBlock] at hk; omega)⟩

def sig96 : List AT := [AT.v (Ty.sl (Ty.cons Ty.str (Ty.cons Ty.str (Ty.cons Ty.str Ty.unit))))]
def g96_0 (x0 : List (ByteArray × ByteArray × ByteArray × Unit)) : List (ByteArray × ByteArray × ByteArray × Unit) := x0
def P96 (x0 : List (ByteArray × ByteArray × ByteArray × Unit)) : Prop := x0.length ≤ 1048576
def S96 : Am.Spec := { sig := sig96, pre := fun ⟨x0, _⟩ => P96 x0, res := fun ⟨x0, _⟩ => [⟨Ty.sl (Ty.cons Ty.str (Ty.cons Ty.str (Ty.cons Ty.str Ty.unit))), g96_0 x0⟩] }
theorem con96 : Contract Try.prog 96 S96 := clone_contract (t := (Ty.cons Ty.str (Ty.cons Ty.str (Ty.cons Ty.str Ty.unit)))) (e := 80) rfl nil96 some96

end Go.Proofs.Ytjkeinpcphkfbaa

/- Function 95 (slices.Delete[[]impl.Block,impl.Block]): its contract, off what is known of the library. -/
set_option linter.unusedVariables false
set_option linter.unusedSimpArgs false
set_option maxRecDepth 100000
namespace Go.Proofs.Ytjkeinpcphkfbaa
open Go Go.Am Go.Proofs

open Go.RowKit in
set_option maxHeartbeats 8000000 in
theorem run95 (w : World) (xs : List (ByteArray × ByteArray × ByteArray × Unit)) (b off cap : Nat) (cur : Array Value) (ty : TypeId) (fz : Nat × Nat) (i j : Nat) (hA : OwnAt w (Ty.cons Ty.str (Ty.cons Ty.str (Ty.cons Ty.str Ty.unit))) xs b off cap cur ty fz) (hij : i < j) (hj : j ≤ xs.length) :
      Calls Try.prog 95 #[.slice (some ⟨b, off, none⟩) xs.length cap, .int .i64 i, .int .i64 j] w fun r w' => r = .returned (.slice (some ⟨b, off, none⟩) (xs.length - (j - i)) cap) ∧
        ∃ q zs, zs.length = (j - i) * Ty.size (Ty.cons Ty.str (Ty.cons Ty.str (Ty.cons Ty.str Ty.unit))) ∧ w' = ((w.drewN q).setCells b (off + i * Ty.size (Ty.cons Ty.str (Ty.cons Ty.str (Ty.cons Ty.str Ty.unit)))) (fcs (Ty.cons Ty.str (Ty.cons Ty.str (Ty.cons Ty.str Ty.unit))) (xs.drop j))).setCells b (off + (xs.length - (j - i)) * Ty.size (Ty.cons Ty.str (Ty.cons Ty.str (Ty.cons Ty.str Ty.unit)))) zs := by
  have mixed := mixed
  have hsz : Ty.size (Ty.cons Ty.str (Ty.cons Ty.str (Ty.cons Ty.str Ty.unit))) = 3 := rfl
  have hinfo : TIOk Try.prog 49 (tabGet tab 49) := tabOk 49
  obtain ⟨_, _, ⟨_, ⟨i0, hi0, hz1, z, hz0, hzs, hzv⟩⟩, hby⟩ := hinfo
  have hz1 : i0.size = 3 := hz1
  have hlen := hA.len
  have hcapm := hA.capm
  have hd : (fcs (Ty.cons Ty.str (Ty.cons Ty.str (Ty.cons Ty.str Ty.unit))) (xs.drop j)).length = (xs.length - j) * 3 := by
    have := fcs_length (t := (Ty.cons Ty.str (Ty.cons Ty.str (Ty.cons Ty.str Ty.unit)))) rfl (xs := xs.drop j) (fun x hx => hA.wf x (List.mem_of_mem_drop hx))
    rw [this, List.length_drop]; rfl
  obtain ⟨news, hnews⟩ : ∃ news, news = fcs (Ty.cons Ty.str (Ty.cons Ty.str (Ty.cons Ty.str Ty.unit))) (xs.drop j) := ⟨_, rfl⟩
  have hle : xs.length * 3 ≤ cap * 3 := Nat.mul_le_mul_right _ (by omega)
  have s1 : Hid (news.length = (xs.length - j) * 3) := by rw [hnews]; exact hd
  have s2 : Hid (∀ u ∈ news, u.oneCell' = true) := by rw [hnews]; exact fcells_ones rfl _
  have A0 : Hid (∀ k, k < cap * 3 → (w.cell? ⟨b, off + k, none⟩).isSome = true ∧ w.frozen? ⟨b, off + k, none⟩ = false) := fun k hk => ⟨hA.some' k hk, hA.unfrozen k hk⟩
  have hsrc0 : ∀ (k : Nat) (u : Value), news[k]? = some u → w.cell? ⟨b, off + j * 3 + k, none⟩ = some u := fun k u hk => by
    rw [hnews] at hk
    have := hA.cell _ _ (fcs_drop rfl hA.wf j hj k u hk)
    rwa [Nat.add_assoc]
  obtain ⟨A, hAd, hsrc⟩ : ∃ A : Addr, (if cap = j then some (⟨b, off, none⟩ : Addr) else some ⟨b, off + j * 3, none⟩) = some A ∧ Hid (∀ (t : Nat) (u : Value), news[t]? = some u → w.drew.cell? (A.add t) = some u) := by
    by_cases h : cap = j
    · refine ⟨⟨b, off, none⟩, by simp [h], fun t u hu => ?_⟩
      have h0 : news.length = 0 := by have hnj : xs.length - j = 0 := by omega
                                      rw [s1.out, hnj, Nat.zero_mul]
      rw [List.length_eq_zero_iff.1 h0] at hu
      simp at hu
    · exact ⟨⟨b, off + j * 3, none⟩, by simp [h], fun t u hu => by rw [Addr.add_lit]; exact hsrc0 t u hu⟩
  have s3 : Hid (∀ t, t < news.length → (w.drew.cell? ⟨b, off + i * 3 + t, none⟩).isSome = true ∧ w.drew.frozen? ⟨b, off + i * 3 + t, none⟩ = false) := fun t ht => by
    rw [s1.out] at ht
    rw [Nat.add_assoc]
    exact A0.out _ (by omega)
  obtain ⟨W1, hW1⟩ : ∃ W1, W1 = w.drew.setCells b (off + i * 3) news := ⟨_, rfl⟩
  obtain ⟨zs, hzz⟩ : ∃ zs, zs = (Builtin.zeroCells z.cells (xs.length - (i + (xs.length - j)))).toList := ⟨_, rfl⟩
  have hzl : zs.length = (xs.length - (i + (xs.length - j))) * 3 := by
    have e : z.cells = (dcells (Ty.cons Ty.str (Ty.cons Ty.str (Ty.cons Ty.str Ty.unit)))).toArray := Array.toList_inj.1 (by rw [hzs])
    rw [hzz, e, zeroCells_k]
    simp [dcells]
  have hz1c : ∀ v ∈ zs, v.oneCell' = true := by
    have e : z.cells = (dcells (Ty.cons Ty.str (Ty.cons Ty.str (Ty.cons Ty.str Ty.unit)))).toArray := Array.toList_inj.1 (by rw [hzs])
    rw [hzz, e, zeroCells_k]
    intro v hv
    obtain ⟨l, hl, hv⟩ := List.mem_flatten.1 hv
    rw [List.eq_of_mem_replicate hl] at hv
    exact dcells_one _ v hv
  have v23 : ∀ w, (zeroValue 80).run Try.prog w = .ok z w := fun w => by simp [zeroValue, typeInfo, hi0, hz0]
  have hcl : ∀ ty, (Builtin.clear_ #[49] ty #[.slice (some ⟨b, off + (i + (xs.length - j)) * 3, none⟩) (xs.length - (i + (xs.length - j))) (cap - (i + (xs.length - j)))]).run Try.prog W1 = .ok (.tuple #[]) (W1.setCells b (off + (i + (xs.length - j)) * 3) zs) := fun ty =>
    run_clear_k W1 49 80 ty z Try.underlying49 v23 b (off + (i + (xs.length - j)) * 3) _ _ (by omega) zs hzz.symm hz1c
      (fun t ht => by rw [hW1]; exact isSome_put b news _ _ _ (by rw [Nat.add_assoc]; exact (A0.out _ (by rw [hzl] at ht; omega)).1))
      (fun t ht => by rw [hW1, World.frozen?_setCells, Nat.add_assoc]; exact (A0.out _ (by rw [hzl] at ht; omega)).2)
  have X : Aside (W1 = w.drew.setCells b (off + i * 3) news) := hW1
  have hW : Hid (W1 = w.drew.setCells b (off + i * 3) news) := hW1
  have hic : i ≤ cap := by omega
  have hjc : j ≤ cap := by omega
  have hne : ¬ ((i : Int) = (j : Int)) := by omega
  have N : Aside (news = fcs (Ty.cons Ty.str (Ty.cons Ty.str (Ty.cons Ty.str Ty.unit))) (xs.drop j)) := hnews
  clear hW1 hsrc0 hd hzv hzs hz0 hby hA v23 hzz hnews hsz
  go_enter Try.func95, Try.ntmps95
  go_wp2_with fail
  go_region_law_o (refine step_append_room rfl (.tmp 22) (.tmp 25) 49 rfl 80 i0 3 Try.underlying49 hi0 hz1 b off i cap (by simp [Act.eval, Act.put]) A (xs.length - j) (cap - j) news (by simp [Act.eval, Act.put]) s1.out hsrc.out s2.out (by omega) s3.out ?_; rw [← hW.out])
  go_wp2
  go_ret
  have e1 : xs.length - (i + (xs.length - j)) = j - i := by omega
  have e2 : i + (xs.length - j) = xs.length - (j - i) := by omega
  refine ⟨by first | (rw [e2]; done) | (rw [e2]; rfl), 1, zs, by rw [hzl, e1]; rfl, ?_⟩
  rw [← N.out, e2, X.out]
  rfl

def sig95 : List AT := [AT.own (Ty.cons Ty.str (Ty.cons Ty.str (Ty.cons Ty.str Ty.unit))), AT.v (Ty.int .i64), AT.v (Ty.int .i64)]
def g95_0 (x0 : List (ByteArray × ByteArray × ByteArray × Unit)) (x1 x2 : Int) : List (ByteArray × ByteArray × ByteArray × Unit) := x0.take x1.toNat ++ x0.drop x2.toNat
def P95 (x0 : List (ByteArray × ByteArray × ByteArray × Unit)) (x1 x2 : Int) : Prop := 0 ≤ x1 ∧ x1 < x2 ∧ x2 ≤ x0.length
def S95 : Am.Spec := { sig := sig95, pre := fun ⟨x0, x1, x2, _⟩ => P95 x0 x1 x2, upd := fun _ => [none], res := fun ⟨x0, x1, x2, _⟩ => [⟨Ty.sl (Ty.cons Ty.str (Ty.cons Ty.str (Ty.cons Ty.str Ty.unit))), g95_0 x0 x1 x2⟩] }
theorem con95 : Contract Try.prog 95 S95 := delete_contract (t := (Ty.cons Ty.str (Ty.cons Ty.str (Ty.cons Ty.str Ty.unit)))) rfl run95

end Go.Proofs.Ytjkeinpcphkfbaa

/- Function 49 (impl.DropBlock): its runs between cut points. Written by a program of this repo (gen). -/
set_option linter.unusedVariables false
set_option linter.unusedSimpArgs false
set_option maxRecDepth 100000
namespace Go.Proofs.Ytjkeinpcphkfbaa
open Go Go.Am Go.Proofs
def ext49 : Ext := [(37, S37), (94, S94), (96, S96), (95, S95)]
theorem call49_37 : Callable Try.prog 37 := ⟨Try.f37, Try.func37, by kernel_rfl, by kernel_rfl⟩
theorem call49_94 : Callable Try.prog 94 := ⟨Try.f94, Try.func94, by kernel_rfl, by kernel_rfl⟩
theorem call49_96 : Callable Try.prog 96 := ⟨Try.f96, Try.func96, by kernel_rfl, by kernel_rfl⟩
theorem call49_95 : Callable Try.prog 95 := ⟨Try.f95, Try.func95, by kernel_rfl, by kernel_rfl⟩
theorem ext49Ok : ExtOk Try.prog ext49 := ⟨⟨call49_37, con37⟩, ⟨call49_94, con94⟩, ⟨call49_96, con96⟩, ⟨call49_95, con95⟩, trivial⟩
/-! Function 49. -/
noncomputable def b49 : Code := bodyOf Try.f49
theorem hb49 : Try.f49.body = some b49 := by kernel_rfl
def sig49 : List AT := [AT.v (Ty.sl (Ty.cons Ty.str (Ty.cons Ty.str (Ty.cons Ty.str Ty.unit)))), AT.v (Ty.str), AT.v (Ty.str)]
def tys49 : List Ty := [Ty.sl (Ty.cons Ty.str (Ty.cons Ty.str (Ty.cons Ty.str Ty.unit))), Ty.int IntKind.i64]
def P49 (x0 : List (ByteArray × ByteArray × ByteArray × Unit)) (x1 : ByteArray) (x2 : ByteArray) : Prop := (if (!g37_0 x0) = true then True else ((P94 x0 (x1, x2, ByteArray.empty, ())) ∧ (if (!g94_1 x0 (x1, x2, ByteArray.empty, ())) = true then True else ((P96 x0) ∧ ((InR IntKind.i64 (g94_0 x0 (x1, x2, ByteArray.empty, ()) + 1)) ∧ ((P95 (g96_0 x0) (g94_0 x0 (x1, x2, ByteArray.empty, ())) (g94_0 x0 (x1, x2, ByteArray.empty, ()) + 1)) ∧ True))))))
def g49_0 (x0 : List (ByteArray × ByteArray × ByteArray × Unit)) (x1 : ByteArray) (x2 : ByteArray) : List (ByteArray × ByteArray × ByteArray × Unit) := (if (!g37_0 x0) = true then [] else (if (!g94_1 x0 (x1, x2, ByteArray.empty, ())) = true then [] else g95_0 (g96_0 x0) (g94_0 x0 (x1, x2, ByteArray.empty, ())) (g94_0 x0 (x1, x2, ByteArray.empty, ()) + 1)))
def g49_1 (x0 : List (ByteArray × ByteArray × ByteArray × Unit)) (x1 : ByteArray) (x2 : ByteArray) : Int := (if (!g37_0 x0) = true then 1 else (if (!g94_1 x0 (x1, x2, ByteArray.empty, ())) = true then 3 else 0))
theorem p49_0 (x0 : List (ByteArray × ByteArray × ByteArray × Unit)) (x1 : ByteArray) (x2 : ByteArray) : runF tab ext49 false 29 [] 2000 [] tys49 Try.f49.results [true] [.code b49] (entE 0 0 sig49 (x0, x1, x2, ())) (entL sig49 (x0, x1, x2, ())) = some ([Dyn.mk (Ty.sl (Ty.cons Ty.str (Ty.cons Ty.str (Ty.cons Ty.str Ty.unit)))) [], Dyn.mk (Ty.int IntKind.i64) 1], [], [True, (!g37_0 x0) = Bool.true]) := by kernel_rfl
theorem p49_1 (x0 : List (ByteArray × ByteArray × ByteArray × Unit)) (x1 : ByteArray) (x2 : ByteArray) : runF tab ext49 false 29 [] 2000 [] tys49 Try.f49.results [false, true] [.code b49] (entE 0 0 sig49 (x0, x1, x2, ())) (entL sig49 (x0, x1, x2, ())) = some ([Dyn.mk (Ty.sl (Ty.cons Ty.str (Ty.cons Ty.str (Ty.cons Ty.str Ty.unit)))) [], Dyn.mk (Ty.int IntKind.i64) 3], [], [True, (!g37_0 x0) = Bool.false, P94 x0 (x1, x2, ByteArray.empty, ()), (!g94_1 x0 (x1, x2, ByteArray.empty, ())) = Bool.true]) := by kernel_rfl
theorem p49_2 (x0 : List (ByteArray × ByteArray × ByteArray × Unit)) (x1 : ByteArray) (x2 : ByteArray) : runF tab ext49 false 29 [] 2000 [] tys49 Try.f49.results [false, false] [.code b49] (entE 0 0 sig49 (x0, x1, x2, ())) (entL sig49 (x0, x1, x2, ())) = some ([Dyn.mk (Ty.sl (Ty.cons Ty.str (Ty.cons Ty.str (Ty.cons Ty.str Ty.unit)))) (g95_0 (g96_0 x0) (g94_0 x0 (x1, x2, ByteArray.empty, ())) (g94_0 x0 (x1, x2, ByteArray.empty, ()) + 1)), Dyn.mk (Ty.int IntKind.i64) 0], [], [True, (!g37_0 x0) = Bool.false, P94 x0 (x1, x2, ByteArray.empty, ()), (!g94_1 x0 (x1, x2, ByteArray.empty, ())) = Bool.false, P96 x0, InR IntKind.i64 (g94_0 x0 (x1, x2, ByteArray.empty, ()) + 1), P95 (g96_0 x0) (g94_0 x0 (x1, x2, ByteArray.empty, ())) (g94_0 x0 (x1, x2, ByteArray.empty, ()) + 1)]) := by kernel_rfl
theorem at49 (x0 : List (ByteArray × ByteArray × ByteArray × Unit)) (x1 : ByteArray) (x2 : ByteArray) (h : P49 x0 x1 x2) (w0 : World) (O : List Nat) (q : Nat → Value) : AtV Try.prog 49 (PostR [⟨Ty.sl (Ty.cons Ty.str (Ty.cons Ty.str (Ty.cons Ty.str Ty.unit))), g49_0 x0 x1 x2⟩, ⟨Ty.int IntKind.i64, g49_1 x0 x1 x2⟩] [] [] q w0 O) 29 w0 O q [] [.code b49] (entE 0 0 sig49 (x0, x1, x2, ())) (entL sig49 (x0, x1, x2, ())) := by
  unfold P49 at h
  unfold g49_0 g49_1
  by_cases b0 : (!g37_0 x0) = true
  · try simp only [if_pos b0] at h ⊢
    exact AtV.fin Try.func49 tabOk ext49Ok mixed (p49_0 x0 x1 x2) ⟨trivial, b0, trivial⟩
  · try simp only [if_neg b0] at h ⊢
    replace b0 := Bool.eq_false_iff.2 b0
    obtain ⟨s0, h⟩ := h
    by_cases b1 : (!g94_1 x0 (x1, x2, ByteArray.empty, ())) = true
    · try simp only [if_pos b1] at h ⊢
      exact AtV.fin Try.func49 tabOk ext49Ok mixed (p49_1 x0 x1 x2) ⟨trivial, b0, s0, b1, trivial⟩
    · try simp only [if_neg b1] at h ⊢
      replace b1 := Bool.eq_false_iff.2 b1
      obtain ⟨s1, h⟩ := h
      obtain ⟨s2, h⟩ := h
      obtain ⟨s3, h⟩ := h
      exact AtV.fin Try.func49 tabOk ext49Ok mixed (p49_2 x0 x1 x2) ⟨trivial, b0, s0, b1, s1, s2, s3, trivial⟩

def S49 : Am.Spec := { sig := sig49, pre := fun ⟨x0, x1, x2, _⟩ => P49 x0 x1 x2, res := fun ⟨x0, x1, x2, _⟩ => [⟨Ty.sl (Ty.cons Ty.str (Ty.cons Ty.str (Ty.cons Ty.str Ty.unit))), g49_0 x0 x1 x2⟩, ⟨Ty.int IntKind.i64, g49_1 x0 x1 x2⟩] }
theorem con49 : Contract Try.prog 49 S49 := contract_of Try.func49 hb49 (Nat.le_of_ble_eq_true (by kernel_rfl)) (fun ⟨x0, x1, x2, _⟩ h _ w0 O q => at49 x0 x1 x2 h w0 O q)


end Go.Proofs.Ytjkeinpcphkfbaa

/- Function 86 (laws.eqBlock): its runs between cut points. Written by a program of this repo (gen). -/
set_option linter.unusedVariables false
set_option linter.unusedSimpArgs false
set_option maxRecDepth 100000
namespace Go.Proofs.Ytjkeinpcphkfbaa
open Go Go.Am Go.Proofs
def ext86 : Ext := []
theorem ext86Ok : ExtOk Try.prog ext86 := trivial
/-! Function 86. -/
noncomputable def b86 : Code := bodyOf Try.f86
theorem hb86 : Try.f86.body = some b86 := by kernel_rfl
def sig86 : List AT := [AT.v (Ty.cons Ty.str (Ty.cons Ty.str (Ty.cons Ty.str Ty.unit))), AT.v (Ty.cons Ty.str (Ty.cons Ty.str (Ty.cons Ty.str Ty.unit)))]
def tys86 : List Ty := [Ty.bool]
def P86 (x0 : ByteArray × ByteArray × ByteArray × Unit) (x1 : ByteArray × ByteArray × ByteArray × Unit) : Prop := True
def g86_0 (x0 : ByteArray × ByteArray × ByteArray × Unit) (x1 : ByteArray × ByteArray × ByteArray × Unit) : Bool := (if (!ByteArray.toList (Prod.fst x0) == ByteArray.toList (Prod.fst x1)) = true then Bool.false else (if (!ByteArray.toList (Prod.fst (Prod.snd x0)) == ByteArray.toList (Prod.fst (Prod.snd x1))) = true then Bool.false else (if (!ByteArray.toList (Prod.fst (Prod.snd (Prod.snd x0))) == ByteArray.toList (Prod.fst (Prod.snd (Prod.snd x1)))) = true then Bool.false else Bool.true)))
theorem p86_0 (x0 : ByteArray × ByteArray × ByteArray × Unit) (x1 : ByteArray × ByteArray × ByteArray × Unit) : runF tab ext86 false 20 [] 2000 [] tys86 Try.f86.results [true] [.code b86] (entE 0 0 sig86 (x0, x1, ())) (entL sig86 (x0, x1, ())) = some ([Dyn.mk Ty.bool Bool.false], [], [(!ByteArray.toList (Prod.fst x0) == ByteArray.toList (Prod.fst x1)) = Bool.true]) := by kernel_rfl
theorem p86_1 (x0 : ByteArray × ByteArray × ByteArray × Unit) (x1 : ByteArray × ByteArray × ByteArray × Unit) : runF tab ext86 false 20 [] 2000 [] tys86 Try.f86.results [false, true] [.code b86] (entE 0 0 sig86 (x0, x1, ())) (entL sig86 (x0, x1, ())) = some ([Dyn.mk Ty.bool Bool.false], [], [(!ByteArray.toList (Prod.fst x0) == ByteArray.toList (Prod.fst x1)) = Bool.false, (!ByteArray.toList (Prod.fst (Prod.snd x0)) == ByteArray.toList (Prod.fst (Prod.snd x1))) = Bool.true]) := by kernel_rfl
theorem p86_2 (x0 : ByteArray × ByteArray × ByteArray × Unit) (x1 : ByteArray × ByteArray × ByteArray × Unit) : runF tab ext86 false 20 [] 2000 [] tys86 Try.f86.results [false, false, true] [.code b86] (entE 0 0 sig86 (x0, x1, ())) (entL sig86 (x0, x1, ())) = some ([Dyn.mk Ty.bool Bool.false], [], [(!ByteArray.toList (Prod.fst x0) == ByteArray.toList (Prod.fst x1)) = Bool.false, (!ByteArray.toList (Prod.fst (Prod.snd x0)) == ByteArray.toList (Prod.fst (Prod.snd x1))) = Bool.false, (!ByteArray.toList (Prod.fst (Prod.snd (Prod.snd x0))) == ByteArray.toList (Prod.fst (Prod.snd (Prod.snd x1)))) = Bool.true]) := by kernel_rfl
theorem p86_3 (x0 : ByteArray × ByteArray × ByteArray × Unit) (x1 : ByteArray × ByteArray × ByteArray × Unit) : runF tab ext86 false 20 [] 2000 [] tys86 Try.f86.results [false, false, false] [.code b86] (entE 0 0 sig86 (x0, x1, ())) (entL sig86 (x0, x1, ())) = some ([Dyn.mk Ty.bool Bool.true], [], [(!ByteArray.toList (Prod.fst x0) == ByteArray.toList (Prod.fst x1)) = Bool.false, (!ByteArray.toList (Prod.fst (Prod.snd x0)) == ByteArray.toList (Prod.fst (Prod.snd x1))) = Bool.false, (!ByteArray.toList (Prod.fst (Prod.snd (Prod.snd x0))) == ByteArray.toList (Prod.fst (Prod.snd (Prod.snd x1)))) = Bool.false]) := by kernel_rfl
theorem at86 (x0 : ByteArray × ByteArray × ByteArray × Unit) (x1 : ByteArray × ByteArray × ByteArray × Unit) (h : P86 x0 x1) (w0 : World) (O : List Nat) (q : Nat → Value) : AtV Try.prog 86 (PostR [⟨Ty.bool, g86_0 x0 x1⟩] [] [] q w0 O) 20 w0 O q [] [.code b86] (entE 0 0 sig86 (x0, x1, ())) (entL sig86 (x0, x1, ())) := by
  unfold P86 at h
  unfold g86_0
  by_cases b0 : (!ByteArray.toList (Prod.fst x0) == ByteArray.toList (Prod.fst x1)) = true
  · try simp only [if_pos b0] at h ⊢
    exact AtV.fin Try.func86 tabOk ext86Ok mixed (p86_0 x0 x1) ⟨b0, trivial⟩
  · try simp only [if_neg b0] at h ⊢
    replace b0 := Bool.eq_false_iff.2 b0
    by_cases b1 : (!ByteArray.toList (Prod.fst (Prod.snd x0)) == ByteArray.toList (Prod.fst (Prod.snd x1))) = true
    · try simp only [if_pos b1] at h ⊢
      exact AtV.fin Try.func86 tabOk ext86Ok mixed (p86_1 x0 x1) ⟨b0, b1, trivial⟩
    · try simp only [if_neg b1] at h ⊢
      replace b1 := Bool.eq_false_iff.2 b1
      by_cases b2 : (!ByteArray.toList (Prod.fst (Prod.snd (Prod.snd x0))) == ByteArray.toList (Prod.fst (Prod.snd (Prod.snd x1)))) = true
      · try simp only [if_pos b2] at h ⊢
        exact AtV.fin Try.func86 tabOk ext86Ok mixed (p86_2 x0 x1) ⟨b0, b1, b2, trivial⟩
      · try simp only [if_neg b2] at h ⊢
        replace b2 := Bool.eq_false_iff.2 b2
        exact AtV.fin Try.func86 tabOk ext86Ok mixed (p86_3 x0 x1) ⟨b0, b1, b2, trivial⟩

def S86 : Am.Spec := { sig := sig86, pre := fun ⟨x0, x1, _⟩ => P86 x0 x1, res := fun ⟨x0, x1, _⟩ => [⟨Ty.bool, g86_0 x0 x1⟩] }
theorem con86 : Contract Try.prog 86 S86 := contract_of Try.func86 hb86 (Nat.le_of_ble_eq_true (by kernel_rfl)) (fun ⟨x0, x1, _⟩ h _ w0 O q => at86 x0 x1 h w0 O q)


theorem eqd86 (x y : ByteArray × ByteArray × ByteArray × Unit) : g86_0 x y = true ↔ x = y := by
  obtain ⟨a, b, c, u⟩ := x
  obtain ⟨a', b', c', u'⟩ := y
  unfold g86_0
  simp only [Bool.not_eq_true', bytes_ne]
  by_cases h1 : a = a'
  · by_cases h2 : b = b'
    · by_cases h3 : c = c'
      · simp [h1, h2, h3]
      · simp [h1, h2, h3]
    · simp [h1, h2]
  · simp [h1]

end Go.Proofs.Ytjkeinpcphkfbaa

/- Function 38 (laws.eqBlockS): its runs between cut points. Written by a program of this repo (gen). -/
set_option linter.unusedVariables false
set_option linter.unusedSimpArgs false
set_option maxRecDepth 100000
namespace Go.Proofs.Ytjkeinpcphkfbaa
open Go Go.Am Go.Proofs
def ext38 : Ext := [(86, S86)]
theorem call38_86 : Callable Try.prog 86 := ⟨Try.f86, Try.func86, by kernel_rfl, by kernel_rfl⟩
theorem ext38Ok : ExtOk Try.prog ext38 := ⟨⟨call38_86, con86⟩, trivial⟩
/-! Function 38. -/
noncomputable def b38 : Code := bodyOf Try.f38
theorem hb38 : Try.f38.body = some b38 := by kernel_rfl
def sig38 : List AT := [AT.v (Ty.sl (Ty.cons Ty.str (Ty.cons Ty.str (Ty.cons Ty.str Ty.unit)))), AT.v (Ty.sl (Ty.cons Ty.str (Ty.cons Ty.str (Ty.cons Ty.str Ty.unit))))]
def tys38 : List Ty := [Ty.bool]
def E38_4 (v5 : Int) (x0 : List (ByteArray × ByteArray × ByteArray × Unit)) (x1 : List (ByteArray × ByteArray × ByteArray × Unit)) : Env := [(0, PV.a (Atom.sl (Ty.cons Ty.str (Ty.cons Ty.str (Ty.cons Ty.str Ty.unit))) x0)), (1, PV.a (Atom.sl (Ty.cons Ty.str (Ty.cons Ty.str (Ty.cons Ty.str Ty.unit))) x1)), (5, PV.a (Atom.val (Value.int IntKind.i64 v5)))]
def L38_4 (v5 : Int) (x0 : List (ByteArray × ByteArray × ByteArray × Unit)) (x1 : List (ByteArray × ByteArray × ByteArray × Unit)) : Heap := []
mutual
def R38 : Nat → List (ByteArray × ByteArray × ByteArray × Unit) → List (ByteArray × ByteArray × ByteArray × Unit) → List Dyn → Prop
  | 0, _, _, _ => False
  | n + 1, x0, x1, ds => (if ((↑(List.length x0) : Int) != (↑(List.length x1) : Int)) = true then (ds = [Dyn.mk Ty.bool Bool.false]) else (R38_4 n (0) (x0) (x1) ds))
def R38_4 : Nat → Int → List (ByteArray × ByteArray × ByteArray × Unit) → List (ByteArray × ByteArray × ByteArray × Unit) → List Dyn → Prop
  | 0, _, _, _, _ => False
  | n + 1, v5, x0, x1, ds => (if (Decidable.decide (v5 < (↑(List.length x0) : Int))) = true then ((0 ≤ v5) ∧ (v5 < (↑(List.length x0) : Int)) ∧ ((0 ≤ v5) ∧ (v5 < (↑(List.length x1) : Int)) ∧ (if (!g86_0 (List.getD x0 (Int.toNat v5) (ByteArray.empty, ByteArray.empty, ByteArray.empty, ())) (List.getD x1 (Int.toNat v5) (ByteArray.empty, ByteArray.empty, ByteArray.empty, ()))) = true then (ds = [Dyn.mk Ty.bool Bool.false]) else ((InR IntKind.i64 (v5 + 1)) ∧ (R38_4 n (v5 + 1) (x0) (x1) ds))))) else (ds = [Dyn.mk Ty.bool Bool.true]))
end
theorem p38_0 (x0 : List (ByteArray × ByteArray × ByteArray × Unit)) (x1 : List (ByteArray × ByteArray × ByteArray × Unit)) : runF tab ext38 false 27 [] 2000 [] tys38 Try.f38.results [true] [.code b38] (entE 0 0 sig38 (x0, x1, ())) (entL sig38 (x0, x1, ())) = some ([Dyn.mk Ty.bool Bool.false], [], [((↑(List.length x0) : Int) != (↑(List.length x1) : Int)) = Bool.true]) := by kernel_rfl
theorem p38_1 (x0 : List (ByteArray × ByteArray × ByteArray × Unit)) (x1 : List (ByteArray × ByteArray × ByteArray × Unit)) : Am.runN tab ext38 false 27 [] 2000 [] [] [0, 1, 5] [] [false] [.code b38] (entE 0 0 sig38 (x0, x1, ())) (entL sig38 (x0, x1, ())) = some (cutAt b38 4, E38_4 (0) (x0) (x1), L38_4 (0) (x0) (x1), [((↑(List.length x0) : Int) != (↑(List.length x1) : Int)) = Bool.false]) := by kernel_rfl
theorem p38_2 (v5 : Int) (x0 : List (ByteArray × ByteArray × ByteArray × Unit)) (x1 : List (ByteArray × ByteArray × ByteArray × Unit)) : runF tab ext38 false 27 [] 2000 [] tys38 Try.f38.results [true, true] (cutAt b38 4) (E38_4 v5 x0 x1) (L38_4 v5 x0 x1) = some ([Dyn.mk Ty.bool Bool.false], [], [Decidable.decide (v5 < (↑(List.length x0) : Int)) = Bool.true, 0 ≤ v5, v5 < (↑(List.length x0) : Int), 0 ≤ v5, v5 < (↑(List.length x1) : Int), True, (!g86_0 (List.getD x0 (Int.toNat v5) (ByteArray.empty, ByteArray.empty, ByteArray.empty, ())) (List.getD x1 (Int.toNat v5) (ByteArray.empty, ByteArray.empty, ByteArray.empty, ()))) = Bool.true]) := by kernel_rfl
theorem p38_3 (v5 : Int) (x0 : List (ByteArray × ByteArray × ByteArray × Unit)) (x1 : List (ByteArray × ByteArray × ByteArray × Unit)) : Am.runN tab ext38 false 27 [] 2000 [] [] [0, 1, 5] [] [true, false] (cutAt b38 4) (E38_4 v5 x0 x1) (L38_4 v5 x0 x1) = some (cutAt b38 4, E38_4 (v5 + 1) (x0) (x1), L38_4 (v5 + 1) (x0) (x1), [Decidable.decide (v5 < (↑(List.length x0) : Int)) = Bool.true, 0 ≤ v5, v5 < (↑(List.length x0) : Int), 0 ≤ v5, v5 < (↑(List.length x1) : Int), True, (!g86_0 (List.getD x0 (Int.toNat v5) (ByteArray.empty, ByteArray.empty, ByteArray.empty, ())) (List.getD x1 (Int.toNat v5) (ByteArray.empty, ByteArray.empty, ByteArray.empty, ()))) = Bool.false, InR IntKind.i64 (v5 + 1)]) := by kernel_rfl
theorem p38_4 (v5 : Int) (x0 : List (ByteArray × ByteArray × ByteArray × Unit)) (x1 : List (ByteArray × ByteArray × ByteArray × Unit)) : runF tab ext38 false 27 [] 2000 [] tys38 Try.f38.results [false] (cutAt b38 4) (E38_4 v5 x0 x1) (L38_4 v5 x0 x1) = some ([Dyn.mk Ty.bool Bool.true], [], [Decidable.decide (v5 < (↑(List.length x0) : Int)) = Bool.false]) := by kernel_rfl
theorem snd38 : ∀ n, (∀ (x0 : List (ByteArray × ByteArray × ByteArray × Unit)) (x1 : List (ByteArray × ByteArray × ByteArray × Unit)) ds, R38 n x0 x1 ds → ∀ w0 O q, AtV Try.prog 38 (PostR ds [] [] q w0 O) 27 w0 O q [] [.code b38] (entE 0 0 sig38 (x0, x1, ())) (entL sig38 (x0, x1, ()))) ∧ (∀ (v5 : Int) (x0 : List (ByteArray × ByteArray × ByteArray × Unit)) (x1 : List (ByteArray × ByteArray × ByteArray × Unit)) ds, R38_4 n v5 x0 x1 ds → ∀ w0 O q, AtV Try.prog 38 (PostR ds [] [] q w0 O) 27 w0 O q [] (cutAt b38 4) (E38_4 v5 x0 x1) (L38_4 v5 x0 x1)) := by
  intro n
  induction n with
  | zero => exact ⟨fun _ _ _ h => by simp only [R38] at h, fun _ _ _ _ h => by simp only [R38_4] at h⟩
  | succ n ih =>
  obtain ⟨ih, ih4⟩ := ih
  refine ⟨?_, ?_⟩
  · intro x0 x1 ds h w0 O q
    rw [R38] at h
    by_cases b0 : ((↑(List.length x0) : Int) != (↑(List.length x1) : Int)) = true
    · rw [if_pos b0] at h
      subst h
      exact AtV.fin Try.func38 tabOk ext38Ok mixed (p38_0 x0 x1) ⟨b0, trivial⟩
    · rw [if_neg b0] at h
      replace b0 := Bool.eq_false_iff.2 b0
      exact AtV.runN tabOk ext38Ok mixed (p38_1 x0 x1) ⟨b0, trivial⟩ (ih4 _ _ _ _ h w0 O q)

  · intro v5 x0 x1 ds h w0 O q
    rw [R38_4] at h
    by_cases b0 : (Decidable.decide (v5 < (↑(List.length x0) : Int))) = true
    · rw [if_pos b0] at h
      obtain ⟨s0, s1, h⟩ := h
      obtain ⟨s2, s3, h⟩ := h
      by_cases b1 : (!g86_0 (List.getD x0 (Int.toNat v5) (ByteArray.empty, ByteArray.empty, ByteArray.empty, ())) (List.getD x1 (Int.toNat v5) (ByteArray.empty, ByteArray.empty, ByteArray.empty, ()))) = true
      · rw [if_pos b1] at h
        subst h
        exact AtV.fin Try.func38 tabOk ext38Ok mixed (p38_2 v5 x0 x1) ⟨b0, s0, s1, s2, s3, trivial, b1, trivial⟩
      · rw [if_neg b1] at h
        replace b1 := Bool.eq_false_iff.2 b1
        obtain ⟨s4, h⟩ := h
        exact AtV.runN tabOk ext38Ok mixed (p38_3 v5 x0 x1) ⟨b0, s0, s1, s2, s3, trivial, b1, s4, trivial⟩ (ih4 _ _ _ _ h w0 O q)
    · rw [if_neg b0] at h
      replace b0 := Bool.eq_false_iff.2 b0
      subst h
      exact AtV.fin Try.func38 tabOk ext38Ok mixed (p38_4 v5 x0 x1) ⟨b0, trivial⟩



theorem eq38 (x0 x1 : List (ByteArray × ByteArray × ByteArray × Unit)) (hl : x0.length = x1.length) (hm : x0.length ≤ maxLen) : ∀ k i : Nat, i + k = x0.length → R38_4 (k + 1) (i : Int) x0 x1 [⟨.bool, decide (x0.drop i = x1.drop i)⟩] := by
  intro k
  induction k with
  | zero =>
    intro i hi
    have h1 : ¬ (i : Int) < (x0.length : Int) := by omega
    rw [R38_4, if_neg (by simpa using h1), drop_end x0 i (by omega), drop_end x1 i (by omega)]
    simp
  | succ k ih =>
    intro i hi
    have h1 : (i : Int) < (x0.length : Int) := by omega
    rw [R38_4, if_pos (by simpa using h1)]
    refine ⟨by omega, h1, by omega, by omega, ?_⟩
    simp only [Int.toNat_natCast]
    rw [drop_get x0 i (ByteArray.empty, ByteArray.empty, ByteArray.empty, ()) (by omega), drop_get x1 i (ByteArray.empty, ByteArray.empty, ByteArray.empty, ()) (by omega)]
    by_cases he : x0.getD i (ByteArray.empty, ByteArray.empty, ByteArray.empty, ()) = x1.getD i (ByteArray.empty, ByteArray.empty, ByteArray.empty, ())
    · have hd := (eqd86 _ _).2 he
      rw [if_neg (by rw [hd]; simp)]
      refine ⟨inR_up hm (by omega), ?_⟩
      have := ih (i + 1) (by omega)
      simp only [he, List.cons.injEq, true_and]
      exact this
    · have hd : g86_0 (x0.getD i (ByteArray.empty, ByteArray.empty, ByteArray.empty, ())) (x1.getD i (ByteArray.empty, ByteArray.empty, ByteArray.empty, ())) = false :=
        Bool.eq_false_iff.2 fun h => he ((eqd86 _ _).1 h)
      rw [if_pos (by rw [hd]; rfl)]
      simp only [he, List.cons.injEq, false_and, decide_false]

def g38_0 (x0 x1 : List (ByteArray × ByteArray × ByteArray × Unit)) : Bool := decide (x0 = x1)
def P38 (x0 x1 : List (ByteArray × ByteArray × ByteArray × Unit)) : Prop := True
def S38 : Am.Spec := { sig := sig38, pre := fun ⟨x0, x1, _⟩ => P38 x0 x1, res := fun ⟨x0, x1, _⟩ => [⟨Ty.bool, g38_0 x0 x1⟩] }
theorem con38 : Contract Try.prog 38 S38 := contract_of Try.func38 hb38 (Nat.le_of_ble_eq_true (by kernel_rfl)) (fun ⟨x0, x1, _⟩ h hwf w0 O q => by
  refine (snd38 (x0.length + 2)).1 x0 x1 _ ?_ w0 O q
  show R38 (x0.length + 1 + 1) x0 x1 [⟨Ty.bool, decide (x0 = x1)⟩]
  rw [R38]
  by_cases hl : x0.length = x1.length
  · rw [if_neg (by simp [hl])]
    have := eq38 x0 x1 hl hwf.1.1 x0.length 0 (by omega)
    simpa using this
  · rw [if_pos (by simp; omega)]
    have : x0 ≠ x1 := fun h => hl (by rw [h])
    simp [this])

end Go.Proofs.Ytjkeinpcphkfbaa

/- Function 72 (laws.markText): its runs between cut points. Written by a program of this repo (gen). -/
set_option linter.unusedVariables false
set_option linter.unusedSimpArgs false
set_option maxRecDepth 100000
namespace Go.Proofs.Ytjkeinpcphkfbaa
open Go Go.Am Go.Proofs
def ext72 : Ext := []
theorem ext72Ok : ExtOk Try.prog ext72 := trivial
/-! Function 72. -/
noncomputable def b72 : Code := bodyOf Try.f72
theorem hb72 : Try.f72.body = some b72 := by kernel_rfl
def sig72 : List AT := [AT.v (Ty.int IntKind.i64)]
def tys72 : List Ty := [Ty.str]
def E72_4 (v3 : ByteArray) (x0 : Int) : Env := [(0, PV.a (Atom.val (Value.int IntKind.i64 x0))), (3, PV.a (Atom.val (Value.string v3)))]
def L72_4 (v3 : ByteArray) (x0 : Int) : Heap := []
mutual
def R72 : Nat → Int → List Dyn → Prop
  | 0, _, _ => False
  | n + 1, x0, ds => (if (Decidable.decide (x0 ≤ 0)) = true then (ds = [Dyn.mk Ty.str (ByteArray.mk #[109, 48])]) else (R72_4 n (ByteArray.mk #[]) (x0) ds))
def R72_4 : Nat → ByteArray → Int → List Dyn → Prop
  | 0, _, _, _ => False
  | n + 1, v3, x0, ds => (if (Decidable.decide (x0 > 0)) = true then ((InR IntKind.i64 (Int.tmod x0 10)) ∧ ((InR IntKind.i64 (48 + Int.tmod x0 10)) ∧ ((InR IntKind.u8 (48 + Int.tmod x0 10)) ∧ ((ByteArray.size (bytesStr [48 + Int.tmod x0 10]) + ByteArray.size v3 ≤ 9223372036854775807) ∧ ((InR IntKind.i64 (Int.tdiv x0 10)) ∧ (R72_4 n (bytesStr [48 + Int.tmod x0 10] ++ v3) (Int.tdiv x0 10) ds)))))) else ((1 + ByteArray.size v3 ≤ 9223372036854775807) ∧ (ds = [Dyn.mk Ty.str (ByteArray.mk #[109] ++ v3)])))
end
theorem p72_0 (x0 : Int) : runF tab ext72 false 20 [] 2000 [] tys72 Try.f72.results [true] [.code b72] (entE 0 0 sig72 (x0, ())) (entL sig72 (x0, ())) = some ([Dyn.mk Ty.str (ByteArray.mk #[109, 48])], [], [Decidable.decide (x0 ≤ 0) = Bool.true]) := by kernel_rfl
theorem p72_1 (x0 : Int) : Am.runN tab ext72 false 20 [] 2000 [] [] [0, 3] [] [false] [.code b72] (entE 0 0 sig72 (x0, ())) (entL sig72 (x0, ())) = some (cutAt b72 4, E72_4 (ByteArray.mk #[]) (x0), L72_4 (ByteArray.mk #[]) (x0), [Decidable.decide (x0 ≤ 0) = Bool.false]) := by kernel_rfl
theorem p72_2 (v3 : ByteArray) (x0 : Int) : Am.runN tab ext72 false 20 [] 2000 [] [] [0, 3] [] [true] (cutAt b72 4) (E72_4 v3 x0) (L72_4 v3 x0) = some (cutAt b72 4, E72_4 (bytesStr [48 + Int.tmod x0 10] ++ v3) (Int.tdiv x0 10), L72_4 (bytesStr [48 + Int.tmod x0 10] ++ v3) (Int.tdiv x0 10), [Decidable.decide (x0 > 0) = Bool.true, (10 : Int) ≠ (0 : Int), InR IntKind.i64 (Int.tmod x0 10), InR IntKind.i64 (48 + Int.tmod x0 10), InR IntKind.u8 (48 + Int.tmod x0 10), ByteArray.size (bytesStr [48 + Int.tmod x0 10]) + ByteArray.size v3 ≤ 9223372036854775807, (10 : Int) ≠ (0 : Int), InR IntKind.i64 (Int.tdiv x0 10)]) := by kernel_rfl
theorem p72_3 (v3 : ByteArray) (x0 : Int) : runF tab ext72 false 20 [] 2000 [] tys72 Try.f72.results [false] (cutAt b72 4) (E72_4 v3 x0) (L72_4 v3 x0) = some ([Dyn.mk Ty.str (ByteArray.mk #[109] ++ v3)], [], [Decidable.decide (x0 > 0) = Bool.false, 1 + ByteArray.size v3 ≤ 9223372036854775807]) := by kernel_rfl
theorem snd72 : ∀ n, (∀ (x0 : Int) ds, R72 n x0 ds → ∀ w0 O q, AtV Try.prog 72 (PostR ds [] [] q w0 O) 20 w0 O q [] [.code b72] (entE 0 0 sig72 (x0, ())) (entL sig72 (x0, ()))) ∧ (∀ (v3 : ByteArray) (x0 : Int) ds, R72_4 n v3 x0 ds → ∀ w0 O q, AtV Try.prog 72 (PostR ds [] [] q w0 O) 20 w0 O q [] (cutAt b72 4) (E72_4 v3 x0) (L72_4 v3 x0)) := by
  intro n
  induction n with
  | zero => exact ⟨fun _ _ h => by simp only [R72] at h, fun _ _ _ h => by simp only [R72_4] at h⟩
  | succ n ih =>
  obtain ⟨ih, ih4⟩ := ih
  refine ⟨?_, ?_⟩
  · intro x0 ds h w0 O q
    rw [R72] at h
    by_cases b0 : (Decidable.decide (x0 ≤ 0)) = true
    · rw [if_pos b0] at h
      subst h
      exact AtV.fin Try.func72 tabOk ext72Ok mixed (p72_0 x0) ⟨b0, trivial⟩
    · rw [if_neg b0] at h
      replace b0 := Bool.eq_false_iff.2 b0
      exact AtV.runN tabOk ext72Ok mixed (p72_1 x0) ⟨b0, trivial⟩ (ih4 _ _ _ h w0 O q)

  · intro v3 x0 ds h w0 O q
    rw [R72_4] at h
    by_cases b0 : (Decidable.decide (x0 > 0)) = true
    · rw [if_pos b0] at h
      obtain ⟨s0, h⟩ := h
      obtain ⟨s1, h⟩ := h
      obtain ⟨s2, h⟩ := h
      obtain ⟨s3, h⟩ := h
      obtain ⟨s4, h⟩ := h
      exact AtV.runN tabOk ext72Ok mixed (p72_2 v3 x0) ⟨b0, (by decide), s0, s1, s2, s3, (by decide), s4, trivial⟩ (ih4 _ _ _ h w0 O q)
    · rw [if_neg b0] at h
      replace b0 := Bool.eq_false_iff.2 b0
      obtain ⟨s0, h⟩ := h
      subst h
      exact AtV.fin Try.func72 tabOk ext72Ok mixed (p72_3 v3 x0) ⟨b0, s0, trivial⟩



def loop72 : Nat → ByteArray → Int → ByteArray
  | 0, v, _ => v
  | n + 1, v, x => if 0 < x then loop72 n (bytesStr [48 + Int.tmod x 10] ++ v) (Int.tdiv x 10) else v

theorem run72 : ∀ (n : Nat) (v : ByteArray) (x : Int), x < 10 ^ n → InR .i64 x → v.size + n ≤ 1000 → R72_4 (n + 1) v x [⟨.str, ByteArray.mk #[109] ++ loop72 n v x⟩] := by
  intro n
  induction n with
  | zero =>
    intro v x h1 _ h2
    rw [R72_4, if_neg (by simp at h1 ⊢; omega)]
    exact ⟨by omega, rfl⟩
  | succ n ih =>
    intro v x h1 hi h2
    rw [i64_iff] at hi
    rw [R72_4]
    by_cases hx : 0 < x
    · rw [if_pos (by simpa using hx)]
      have e1 : Int.tmod x 10 = x % 10 := Int.tmod_eq_emod_of_nonneg (by omega)
      have e2 : Int.tdiv x 10 = x / 10 := Int.tdiv_eq_ediv_of_nonneg (by omega)
      have hs : (bytesStr [48 + Int.tmod x 10]).size = 1 := bytesStr_size _
      have hp : (10 : Int) ^ (n + 1) = 10 * 10 ^ n := by rw [Int.pow_succ, Int.mul_comm]
      refine ⟨by rw [i64_iff, e1]; omega, by rw [i64_iff, e1]; omega, by rw [u8_iff, e1]; omega, by rw [hs]; omega, by rw [i64_iff, e2]; omega, ?_⟩
      have := ih (bytesStr [48 + Int.tmod x 10] ++ v) (Int.tdiv x 10) (by rw [e2]; omega) (by rw [i64_iff, e2]; omega) (by rw [ByteArray.size_append, hs]; omega)
      simp only [loop72, if_pos hx]
      exact this
    · rw [if_neg (by simp; omega)]
      simp only [loop72, if_neg hx]
      exact ⟨by omega, trivial⟩

def g72_0 (x0 : Int) : ByteArray := if x0 ≤ 0 then ByteArray.mk #[109, 48] else ByteArray.mk #[109] ++ loop72 19 (ByteArray.mk #[]) x0
def P72 (x0 : Int) : Prop := True

theorem top72 (x0 : Int) (hi : InR .i64 x0) : R72 21 x0 [⟨.str, g72_0 x0⟩] := by
  rw [R72]
  unfold g72_0
  by_cases h : x0 ≤ 0
  · rw [if_pos (by simpa using h), if_pos h]
  · rw [if_neg (by simpa using h), if_neg h]
    have hi' := hi
    rw [i64_iff] at hi'
    exact run72 19 _ x0 (by omega) hi (by decide)

def S72 : Am.Spec := { sig := sig72, pre := fun ⟨x0, _⟩ => P72 x0, res := fun ⟨x0, _⟩ => [⟨.str, g72_0 x0⟩] }
theorem con72 : Contract Try.prog 72 S72 := contract_of Try.func72 hb72 (Nat.le_of_ble_eq_true (by kernel_rfl)) (fun ⟨x0, _⟩ h hwf w0 O q =>
  (snd72 _).1 x0 _ (top72 x0 hwf.1) w0 O q)

end Go.Proofs.Ytjkeinpcphkfbaa

/- Function 47 (laws.markBlockS): its runs between cut points. Written by a program of this repo (gen). -/
set_option linter.unusedVariables false
set_option linter.unusedSimpArgs false
set_option maxRecDepth 100000
namespace Go.Proofs.Ytjkeinpcphkfbaa
open Go Go.Am Go.Proofs
def ext47 : Ext := [(72, S72)]
theorem call47_72 : Callable Try.prog 72 := ⟨Try.f72, Try.func72, by kernel_rfl, by kernel_rfl⟩
theorem ext47Ok : ExtOk Try.prog ext47 := ⟨⟨call47_72, con72⟩, trivial⟩
/-! Function 47. -/
noncomputable def b47 : Code := bodyOf Try.f47
theorem hb47 : Try.f47.body = some b47 := by kernel_rfl
def sig47 : List AT := [AT.own (Ty.cons Ty.str (Ty.cons Ty.str (Ty.cons Ty.str Ty.unit))), AT.v (Ty.int IntKind.i64)]
def tys47 : List Ty := [Ty.int IntKind.i64]
def E47_2 (v5 : Int) (x1 : Int) (x0 : List (ByteArray × ByteArray × ByteArray × Unit)) : Env := [(0, PV.a (Atom.osl 0 Option.none)), (1, PV.a (Atom.val (Value.int IntKind.i64 x1))), (5, PV.a (Atom.val (Value.int IntKind.i64 v5)))]
def L47_2 (v5 : Int) (x1 : Int) (x0 : List (ByteArray × ByteArray × ByteArray × Unit)) : Heap := [Option.some (Arr.mk (Ty.cons Ty.str (Ty.cons Ty.str (Ty.cons Ty.str Ty.unit))) x0 Bool.false)]
mutual
def R47 : Nat → List (ByteArray × ByteArray × ByteArray × Unit) → Int → List Dyn → List (Option Lst) → Prop
  | 0, _, _, _, _ => False
  | n + 1, x0, x1, ds, us => (R47_2 n (0) (x1) (x0) ds us)
def R47_2 : Nat → Int → Int → List (ByteArray × ByteArray × ByteArray × Unit) → List Dyn → List (Option Lst) → Prop
  | 0, _, _, _, _, _ => False
  | n + 1, v5, x1, x0, ds, us => (if (Decidable.decide (v5 < (↑(List.length x0) : Int))) = true then ((0 ≤ v5) ∧ (v5 < (↑(List.length x0) : Int)) ∧ ((InR IntKind.i64 (x1 + 1)) ∧ ((0 ≤ v5) ∧ (v5 < (↑(List.length (List.set x0 (Int.toNat v5) (g72_0 x1, Prod.snd (List.getD x0 (Int.toNat v5) (ByteArray.empty, ByteArray.empty, ByteArray.empty, ()))))) : Int)) ∧ ((InR IntKind.i64 (x1 + 1 + 1)) ∧ ((0 ≤ v5) ∧ (v5 < (↑(List.length (List.set (List.set x0 (Int.toNat v5) (g72_0 x1, Prod.snd (List.getD x0 (Int.toNat v5) (ByteArray.empty, ByteArray.empty, ByteArray.empty, ())))) (Int.toNat v5) (Prod.fst (List.getD (List.set x0 (Int.toNat v5) (g72_0 x1, Prod.snd (List.getD x0 (Int.toNat v5) (ByteArray.empty, ByteArray.empty, ByteArray.empty, ())))) (Int.toNat v5) (ByteArray.empty, ByteArray.empty, ByteArray.empty, ())), g72_0 (x1 + 1), Prod.snd (Prod.snd (List.getD (List.set x0 (Int.toNat v5) (g72_0 x1, Prod.snd (List.getD x0 (Int.toNat v5) (ByteArray.empty, ByteArray.empty, ByteArray.empty, ())))) (Int.toNat v5) (ByteArray.empty, ByteArray.empty, ByteArray.empty, ())))))) : Int)) ∧ ((InR IntKind.i64 (x1 + 1 + 1 + 1)) ∧ ((InR IntKind.i64 (v5 + 1)) ∧ (R47_2 n (v5 + 1) (x1 + 1 + 1 + 1) (List.set (List.set (List.set x0 (Int.toNat v5) (g72_0 x1, Prod.snd (List.getD x0 (Int.toNat v5) (ByteArray.empty, ByteArray.empty, ByteArray.empty, ())))) (Int.toNat v5) (Prod.fst (List.getD (List.set x0 (Int.toNat v5) (g72_0 x1, Prod.snd (List.getD x0 (Int.toNat v5) (ByteArray.empty, ByteArray.empty, ByteArray.empty, ())))) (Int.toNat v5) (ByteArray.empty, ByteArray.empty, ByteArray.empty, ())), g72_0 (x1 + 1), Prod.snd (Prod.snd (List.getD (List.set x0 (Int.toNat v5) (g72_0 x1, Prod.snd (List.getD x0 (Int.toNat v5) (ByteArray.empty, ByteArray.empty, ByteArray.empty, ())))) (Int.toNat v5) (ByteArray.empty, ByteArray.empty, ByteArray.empty, ()))))) (Int.toNat v5) (Prod.fst (List.getD (List.set (List.set x0 (Int.toNat v5) (g72_0 x1, Prod.snd (List.getD x0 (Int.toNat v5) (ByteArray.empty, ByteArray.empty, ByteArray.empty, ())))) (Int.toNat v5) (Prod.fst (List.getD (List.set x0 (Int.toNat v5) (g72_0 x1, Prod.snd (List.getD x0 (Int.toNat v5) (ByteArray.empty, ByteArray.empty, ByteArray.empty, ())))) (Int.toNat v5) (ByteArray.empty, ByteArray.empty, ByteArray.empty, ())), g72_0 (x1 + 1), Prod.snd (Prod.snd (List.getD (List.set x0 (Int.toNat v5) (g72_0 x1, Prod.snd (List.getD x0 (Int.toNat v5) (ByteArray.empty, ByteArray.empty, ByteArray.empty, ())))) (Int.toNat v5) (ByteArray.empty, ByteArray.empty, ByteArray.empty, ()))))) (Int.toNat v5) (ByteArray.empty, ByteArray.empty, ByteArray.empty, ())), Prod.fst (Prod.snd (List.getD (List.set (List.set x0 (Int.toNat v5) (g72_0 x1, Prod.snd (List.getD x0 (Int.toNat v5) (ByteArray.empty, ByteArray.empty, ByteArray.empty, ())))) (Int.toNat v5) (Prod.fst (List.getD (List.set x0 (Int.toNat v5) (g72_0 x1, Prod.snd (List.getD x0 (Int.toNat v5) (ByteArray.empty, ByteArray.empty, ByteArray.empty, ())))) (Int.toNat v5) (ByteArray.empty, ByteArray.empty, ByteArray.empty, ())), g72_0 (x1 + 1), Prod.snd (Prod.snd (List.getD (List.set x0 (Int.toNat v5) (g72_0 x1, Prod.snd (List.getD x0 (Int.toNat v5) (ByteArray.empty, ByteArray.empty, ByteArray.empty, ())))) (Int.toNat v5) (ByteArray.empty, ByteArray.empty, ByteArray.empty, ()))))) (Int.toNat v5) (ByteArray.empty, ByteArray.empty, ByteArray.empty, ()))), g72_0 (x1 + 1 + 1), Prod.snd (Prod.snd (Prod.snd (List.getD (List.set (List.set x0 (Int.toNat v5) (g72_0 x1, Prod.snd (List.getD x0 (Int.toNat v5) (ByteArray.empty, ByteArray.empty, ByteArray.empty, ())))) (Int.toNat v5) (Prod.fst (List.getD (List.set x0 (Int.toNat v5) (g72_0 x1, Prod.snd (List.getD x0 (Int.toNat v5) (ByteArray.empty, ByteArray.empty, ByteArray.empty, ())))) (Int.toNat v5) (ByteArray.empty, ByteArray.empty, ByteArray.empty, ())), g72_0 (x1 + 1), Prod.snd (Prod.snd (List.getD (List.set x0 (Int.toNat v5) (g72_0 x1, Prod.snd (List.getD x0 (Int.toNat v5) (ByteArray.empty, ByteArray.empty, ByteArray.empty, ())))) (Int.toNat v5) (ByteArray.empty, ByteArray.empty, ByteArray.empty, ()))))) (Int.toNat v5) (ByteArray.empty, ByteArray.empty, ByteArray.empty, ())))))) ds us)))))))) else (ds = [Dyn.mk (Ty.int IntKind.i64) x1] ∧ us = [Option.some (Lst.mk (Ty.cons Ty.str (Ty.cons Ty.str (Ty.cons Ty.str Ty.unit))) x0)]))
end
theorem p47_0 (x0 : List (ByteArray × ByteArray × ByteArray × Unit)) (x1 : Int) : Am.runN tab ext47 false 37 [] 2000 [0] [] [0, 1, 5] [true] [] [.code b47] (entE 0 0 sig47 (x0, x1, ())) (entL sig47 (x0, x1, ())) = some (cutAt b47 2, E47_2 (0) (x1) (x0), L47_2 (0) (x1) (x0), []) := by kernel_rfl
theorem p47_1 (v5 : Int) (x1 : Int) (x0 : List (ByteArray × ByteArray × ByteArray × Unit)) : Am.runN tab ext47 false 37 [] 2000 [0] [] [0, 1, 5] [true] [true] (cutAt b47 2) (E47_2 v5 x1 x0) (L47_2 v5 x1 x0) = some (cutAt b47 2, E47_2 (v5 + 1) (x1 + 1 + 1 + 1) (List.set (List.set (List.set x0 (Int.toNat v5) (g72_0 x1, Prod.snd (List.getD x0 (Int.toNat v5) (ByteArray.empty, ByteArray.empty, ByteArray.empty, ())))) (Int.toNat v5) (Prod.fst (List.getD (List.set x0 (Int.toNat v5) (g72_0 x1, Prod.snd (List.getD x0 (Int.toNat v5) (ByteArray.empty, ByteArray.empty, ByteArray.empty, ())))) (Int.toNat v5) (ByteArray.empty, ByteArray.empty, ByteArray.empty, ())), g72_0 (x1 + 1), Prod.snd (Prod.snd (List.getD (List.set x0 (Int.toNat v5) (g72_0 x1, Prod.snd (List.getD x0 (Int.toNat v5) (ByteArray.empty, ByteArray.empty, ByteArray.empty, ())))) (Int.toNat v5) (ByteArray.empty, ByteArray.empty, ByteArray.empty, ()))))) (Int.toNat v5) (Prod.fst (List.getD (List.set (List.set x0 (Int.toNat v5) (g72_0 x1, Prod.snd (List.getD x0 (Int.toNat v5) (ByteArray.empty, ByteArray.empty, ByteArray.empty, ())))) (Int.toNat v5) (Prod.fst (List.getD (List.set x0 (Int.toNat v5) (g72_0 x1, Prod.snd (List.getD x0 (Int.toNat v5) (ByteArray.empty, ByteArray.empty, ByteArray.empty, ())))) (Int.toNat v5) (ByteArray.empty, ByteArray.empty, ByteArray.empty, ())), g72_0 (x1 + 1), Prod.snd (Prod.snd (List.getD (List.set x0 (Int.toNat v5) (g72_0 x1, Prod.snd (List.getD x0 (Int.toNat v5) (ByteArray.empty, ByteArray.empty, ByteArray.empty, ())))) (Int.toNat v5) (ByteArray.empty, ByteArray.empty, ByteArray.empty, ()))))) (Int.toNat v5) (ByteArray.empty, ByteArray.empty, ByteArray.empty, ())), Prod.fst (Prod.snd (List.getD (List.set (List.set x0 (Int.toNat v5) (g72_0 x1, Prod.snd (List.getD x0 (Int.toNat v5) (ByteArray.empty, ByteArray.empty, ByteArray.empty, ())))) (Int.toNat v5) (Prod.fst (List.getD (List.set x0 (Int.toNat v5) (g72_0 x1, Prod.snd (List.getD x0 (Int.toNat v5) (ByteArray.empty, ByteArray.empty, ByteArray.empty, ())))) (Int.toNat v5) (ByteArray.empty, ByteArray.empty, ByteArray.empty, ())), g72_0 (x1 + 1), Prod.snd (Prod.snd (List.getD (List.set x0 (Int.toNat v5) (g72_0 x1, Prod.snd (List.getD x0 (Int.toNat v5) (ByteArray.empty, ByteArray.empty, ByteArray.empty, ())))) (Int.toNat v5) (ByteArray.empty, ByteArray.empty, ByteArray.empty, ()))))) (Int.toNat v5) (ByteArray.empty, ByteArray.empty, ByteArray.empty, ()))), g72_0 (x1 + 1 + 1), Prod.snd (Prod.snd (Prod.snd (List.getD (List.set (List.set x0 (Int.toNat v5) (g72_0 x1, Prod.snd (List.getD x0 (Int.toNat v5) (ByteArray.empty, ByteArray.empty, ByteArray.empty, ())))) (Int.toNat v5) (Prod.fst (List.getD (List.set x0 (Int.toNat v5) (g72_0 x1, Prod.snd (List.getD x0 (Int.toNat v5) (ByteArray.empty, ByteArray.empty, ByteArray.empty, ())))) (Int.toNat v5) (ByteArray.empty, ByteArray.empty, ByteArray.empty, ())), g72_0 (x1 + 1), Prod.snd (Prod.snd (List.getD (List.set x0 (Int.toNat v5) (g72_0 x1, Prod.snd (List.getD x0 (Int.toNat v5) (ByteArray.empty, ByteArray.empty, ByteArray.empty, ())))) (Int.toNat v5) (ByteArray.empty, ByteArray.empty, ByteArray.empty, ()))))) (Int.toNat v5) (ByteArray.empty, ByteArray.empty, ByteArray.empty, ())))))), L47_2 (v5 + 1) (x1 + 1 + 1 + 1) (List.set (List.set (List.set x0 (Int.toNat v5) (g72_0 x1, Prod.snd (List.getD x0 (Int.toNat v5) (ByteArray.empty, ByteArray.empty, ByteArray.empty, ())))) (Int.toNat v5) (Prod.fst (List.getD (List.set x0 (Int.toNat v5) (g72_0 x1, Prod.snd (List.getD x0 (Int.toNat v5) (ByteArray.empty, ByteArray.empty, ByteArray.empty, ())))) (Int.toNat v5) (ByteArray.empty, ByteArray.empty, ByteArray.empty, ())), g72_0 (x1 + 1), Prod.snd (Prod.snd (List.getD (List.set x0 (Int.toNat v5) (g72_0 x1, Prod.snd (List.getD x0 (Int.toNat v5) (ByteArray.empty, ByteArray.empty, ByteArray.empty, ())))) (Int.toNat v5) (ByteArray.empty, ByteArray.empty, ByteArray.empty, ()))))) (Int.toNat v5) (Prod.fst (List.getD (List.set (List.set x0 (Int.toNat v5) (g72_0 x1, Prod.snd (List.getD x0 (Int.toNat v5) (ByteArray.empty, ByteArray.empty, ByteArray.empty, ())))) (Int.toNat v5) (Prod.fst (List.getD (List.set x0 (Int.toNat v5) (g72_0 x1, Prod.snd (List.getD x0 (Int.toNat v5) (ByteArray.empty, ByteArray.empty, ByteArray.empty, ())))) (Int.toNat v5) (ByteArray.empty, ByteArray.empty, ByteArray.empty, ())), g72_0 (x1 + 1), Prod.snd (Prod.snd (List.getD (List.set x0 (Int.toNat v5) (g72_0 x1, Prod.snd (List.getD x0 (Int.toNat v5) (ByteArray.empty, ByteArray.empty, ByteArray.empty, ())))) (Int.toNat v5) (ByteArray.empty, ByteArray.empty, ByteArray.empty, ()))))) (Int.toNat v5) (ByteArray.empty, ByteArray.empty, ByteArray.empty, ())), Prod.fst (Prod.snd (List.getD (List.set (List.set x0 (Int.toNat v5) (g72_0 x1, Prod.snd (List.getD x0 (Int.toNat v5) (ByteArray.empty, ByteArray.empty, ByteArray.empty, ())))) (Int.toNat v5) (Prod.fst (List.getD (List.set x0 (Int.toNat v5) (g72_0 x1, Prod.snd (List.getD x0 (Int.toNat v5) (ByteArray.empty, ByteArray.empty, ByteArray.empty, ())))) (Int.toNat v5) (ByteArray.empty, ByteArray.empty, ByteArray.empty, ())), g72_0 (x1 + 1), Prod.snd (Prod.snd (List.getD (List.set x0 (Int.toNat v5) (g72_0 x1, Prod.snd (List.getD x0 (Int.toNat v5) (ByteArray.empty, ByteArray.empty, ByteArray.empty, ())))) (Int.toNat v5) (ByteArray.empty, ByteArray.empty, ByteArray.empty, ()))))) (Int.toNat v5) (ByteArray.empty, ByteArray.empty, ByteArray.empty, ()))), g72_0 (x1 + 1 + 1), Prod.snd (Prod.snd (Prod.snd (List.getD (List.set (List.set x0 (Int.toNat v5) (g72_0 x1, Prod.snd (List.getD x0 (Int.toNat v5) (ByteArray.empty, ByteArray.empty, ByteArray.empty, ())))) (Int.toNat v5) (Prod.fst (List.getD (List.set x0 (Int.toNat v5) (g72_0 x1, Prod.snd (List.getD x0 (Int.toNat v5) (ByteArray.empty, ByteArray.empty, ByteArray.empty, ())))) (Int.toNat v5) (ByteArray.empty, ByteArray.empty, ByteArray.empty, ())), g72_0 (x1 + 1), Prod.snd (Prod.snd (List.getD (List.set x0 (Int.toNat v5) (g72_0 x1, Prod.snd (List.getD x0 (Int.toNat v5) (ByteArray.empty, ByteArray.empty, ByteArray.empty, ())))) (Int.toNat v5) (ByteArray.empty, ByteArray.empty, ByteArray.empty, ()))))) (Int.toNat v5) (ByteArray.empty, ByteArray.empty, ByteArray.empty, ())))))), [Decidable.decide (v5 < (↑(List.length x0) : Int)) = Bool.true, True, 0 ≤ v5, v5 < (↑(List.length x0) : Int), InR IntKind.i64 (x1 + 1), True, 0 ≤ v5, v5 < (↑(List.length (List.set x0 (Int.toNat v5) (g72_0 x1, Prod.snd (List.getD x0 (Int.toNat v5) (ByteArray.empty, ByteArray.empty, ByteArray.empty, ()))))) : Int), InR IntKind.i64 (x1 + 1 + 1), True, 0 ≤ v5, v5 < (↑(List.length (List.set (List.set x0 (Int.toNat v5) (g72_0 x1, Prod.snd (List.getD x0 (Int.toNat v5) (ByteArray.empty, ByteArray.empty, ByteArray.empty, ())))) (Int.toNat v5) (Prod.fst (List.getD (List.set x0 (Int.toNat v5) (g72_0 x1, Prod.snd (List.getD x0 (Int.toNat v5) (ByteArray.empty, ByteArray.empty, ByteArray.empty, ())))) (Int.toNat v5) (ByteArray.empty, ByteArray.empty, ByteArray.empty, ())), g72_0 (x1 + 1), Prod.snd (Prod.snd (List.getD (List.set x0 (Int.toNat v5) (g72_0 x1, Prod.snd (List.getD x0 (Int.toNat v5) (ByteArray.empty, ByteArray.empty, ByteArray.empty, ())))) (Int.toNat v5) (ByteArray.empty, ByteArray.empty, ByteArray.empty, ())))))) : Int), InR IntKind.i64 (x1 + 1 + 1 + 1), InR IntKind.i64 (v5 + 1)]) := by kernel_rfl
theorem p47_2 (v5 : Int) (x1 : Int) (x0 : List (ByteArray × ByteArray × ByteArray × Unit)) : runF tab ext47 false 37 [] 2000 [0] tys47 Try.f47.results [false] (cutAt b47 2) (E47_2 v5 x1 x0) (L47_2 v5 x1 x0) = some ([Dyn.mk (Ty.int IntKind.i64) x1], [Option.some (Lst.mk (Ty.cons Ty.str (Ty.cons Ty.str (Ty.cons Ty.str Ty.unit))) x0)], [Decidable.decide (v5 < (↑(List.length x0) : Int)) = Bool.false]) := by kernel_rfl
theorem snd47 : ∀ n, (∀ (x0 : List (ByteArray × ByteArray × ByteArray × Unit)) (x1 : Int) ds us, R47 n x0 x1 ds us → ∀ w0 O q, AtV Try.prog 47 (PostR ds us [0] q w0 O) 37 w0 O q [0] [.code b47] (entE 0 0 sig47 (x0, x1, ())) (entL sig47 (x0, x1, ()))) ∧ (∀ (v5 : Int) (x1 : Int) (x0 : List (ByteArray × ByteArray × ByteArray × Unit)) ds us, R47_2 n v5 x1 x0 ds us → ∀ w0 O q, AtV Try.prog 47 (PostR ds us [0] q w0 O) 37 w0 O q [0] (cutAt b47 2) (E47_2 v5 x1 x0) (L47_2 v5 x1 x0)) := by
  intro n
  induction n with
  | zero => exact ⟨fun _ _ _ _ h => by simp only [R47] at h, fun _ _ _ _ _ h => by simp only [R47_2] at h⟩
  | succ n ih =>
  obtain ⟨ih, ih2⟩ := ih
  refine ⟨?_, ?_⟩
  · intro x0 x1 ds us h w0 O q
    rw [R47] at h
    exact AtV.runN tabOk ext47Ok mixed (p47_0 x0 x1) trivial (ih2 _ _ _ _ _ h w0 O q)

  · intro v5 x1 x0 ds us h w0 O q
    rw [R47_2] at h
    by_cases b0 : (Decidable.decide (v5 < (↑(List.length x0) : Int))) = true
    · rw [if_pos b0] at h
      obtain ⟨s0, s1, h⟩ := h
      obtain ⟨s2, h⟩ := h
      obtain ⟨s3, s4, h⟩ := h
      obtain ⟨s5, h⟩ := h
      obtain ⟨s6, s7, h⟩ := h
      obtain ⟨s8, h⟩ := h
      obtain ⟨s9, h⟩ := h
      exact AtV.runN tabOk ext47Ok mixed (p47_1 v5 x1 x0) ⟨b0, trivial, s0, s1, s2, trivial, s3, s4, s5, trivial, s6, s7, s8, s9, trivial⟩ (ih2 _ _ _ _ _ h w0 O q)
    · rw [if_neg b0] at h
      replace b0 := Bool.eq_false_iff.2 b0
      obtain ⟨h, h'⟩ := h; subst h; subst h'
      exact AtV.fin Try.func47 tabOk ext47Ok mixed (p47_2 v5 x1 x0) ⟨b0, trivial⟩



def M47 (x1 : Int) (n : Nat) : List (ByteArray × ByteArray × ByteArray × Unit) := (List.range n).map fun (j : Nat) => (g72_0 (x1 + 3 * (j : Int)), g72_0 (x1 + 3 * (j : Int) + 1), g72_0 (x1 + 3 * (j : Int) + 1 + 1), ())

theorem M47_len (x1 : Int) (n : Nat) : (M47 x1 n).length = n := by simp [M47]

theorem M47_succ (x1 : Int) (n : Nat) : M47 x1 (n + 1) = M47 x1 n ++ [(g72_0 (x1 + 3 * (n : Int)), g72_0 (x1 + 3 * (n : Int) + 1), g72_0 (x1 + 3 * (n : Int) + 1 + 1), ())] := by
  simp [M47, List.range_succ]

theorem run47 (x0 : List (ByteArray × ByteArray × ByteArray × Unit)) (x1 : Int) (hm : x0.length ≤ maxLen) (h0 : 0 ≤ x1) (h1 : x1 + 3 * x0.length ≤ 9223372036854775807) : ∀ (k i : Nat), i + k = x0.length →
    R47_2 (k + 1) (i : Int) (x1 + 3 * (i : Int)) (M47 x1 i ++ x0.drop i) [⟨.int .i64, x1 + 3 * (x0.length : Int)⟩] [some ⟨(.cons .str (.cons .str (.cons .str .unit))), M47 x1 x0.length⟩] := by
  intro k
  induction k with
  | zero =>
    intro i hi
    have hl : (M47 x1 i ++ x0.drop i).length = x0.length := by simp [M47_len]; omega
    rw [R47_2, if_neg (by rw [hl]; simp; omega), drop_end x0 i (by omega), List.append_nil]
    have : i = x0.length := by omega
    subst this
    exact ⟨rfl, rfl⟩
  | succ k ih =>
    intro i hi
    have hl : (M47 x1 i ++ x0.drop i).length = x0.length := by simp [M47_len]; omega
    have hA := M47_len x1 i
    rw [R47_2, if_pos (by rw [hl]; simp; omega)]
    rw [drop_get x0 i (ByteArray.empty, ByteArray.empty, ByteArray.empty, ()) (by omega)] at hl ⊢
    simp only [Int.toNat_natCast, set_mid _ _ _ _ i hA, get_mid _ _ _ _ i hA]
    have hl' : ∀ y : (ByteArray × ByteArray × ByteArray × Unit), ((M47 x1 i ++ y :: x0.drop (i + 1)).length : Int) = x0.length := fun y => by rw [← hl]; simp
    simp only [hl']
    refine ⟨by omega, by omega, by rw [i64_iff]; omega, by omega, by omega, by rw [i64_iff]; omega, by omega, by omega, by rw [i64_iff]; omega, inR_up hm (by omega), ?_⟩
    have hx : x1 + 3 * (i : Int) + 1 + 1 + 1 = x1 + 3 * ((i + 1 : Nat) : Int) := by omega
    have := ih (i + 1) (by omega)
    rw [M47_succ, List.append_assoc] at this
    rw [hx]
    simpa using this

def P47 (x0 : List (ByteArray × ByteArray × ByteArray × Unit)) (x1 : Int) : Prop := 0 ≤ x1 ∧ x1 + 3 * x0.length ≤ 9223372036854775807
def g47_0 (x0 : List (ByteArray × ByteArray × ByteArray × Unit)) (x1 : Int) : Int := x1 + 3 * (x0.length : Int)
def u47_0 (x0 : List (ByteArray × ByteArray × ByteArray × Unit)) (x1 : Int) : List (ByteArray × ByteArray × ByteArray × Unit) := M47 x1 x0.length

theorem top47 (x0 : List (ByteArray × ByteArray × ByteArray × Unit)) (x1 : Int) (hm : x0.length ≤ maxLen) (h : P47 x0 x1) : R47 (x0.length + 1 + 1) x0 x1 [⟨.int .i64, g47_0 x0 x1⟩] [some ⟨(.cons .str (.cons .str (.cons .str .unit))), u47_0 x0 x1⟩] := by
  rw [R47]
  have := run47 x0 x1 hm h.1 h.2 x0.length 0 (by omega)
  simpa [M47, g47_0, u47_0] using this

def S47 : Am.Spec := { sig := sig47, pre := fun ⟨x0, x1, _⟩ => P47 x0 x1, upd := fun ⟨x0, x1, _⟩ => [some ⟨(.cons .str (.cons .str (.cons .str .unit))), u47_0 x0 x1⟩], res := fun ⟨x0, x1, _⟩ => [⟨.int .i64, g47_0 x0 x1⟩] }
theorem con47 : Contract Try.prog 47 S47 := contract_of Try.func47 hb47 (Nat.le_of_ble_eq_true (by kernel_rfl)) (fun ⟨x0, x1, _⟩ h hwf w0 O q =>
  (snd47 _).1 x0 x1 _ _ (top47 x0 x1 hwf.1.1 h) w0 O q)

end Go.Proofs.Ytjkeinpcphkfbaa

/- Function 50 (laws.heldBlockS): its runs between cut points. Written by a program of this repo (gen). -/
set_option linter.unusedVariables false
set_option linter.unusedSimpArgs false
set_option maxRecDepth 100000
namespace Go.Proofs.Ytjkeinpcphkfbaa
open Go Go.Am Go.Proofs
def ext50 : Ext := [(72, S72)]
theorem call50_72 : Callable Try.prog 72 := ⟨Try.f72, Try.func72, by kernel_rfl, by kernel_rfl⟩
theorem ext50Ok : ExtOk Try.prog ext50 := ⟨⟨call50_72, con72⟩, trivial⟩
/-! Function 50. -/
noncomputable def b50 : Code := bodyOf Try.f50
theorem hb50 : Try.f50.body = some b50 := by kernel_rfl
def sig50 : List AT := [AT.v (Ty.sl (Ty.cons Ty.str (Ty.cons Ty.str (Ty.cons Ty.str Ty.unit)))), AT.v (Ty.int IntKind.i64)]
def tys50 : List Ty := [Ty.int IntKind.i64]
def E50_2 (v5 : Int) (x0 : List (ByteArray × ByteArray × ByteArray × Unit)) (x1 : Int) : Env := [(0, PV.a (Atom.sl (Ty.cons Ty.str (Ty.cons Ty.str (Ty.cons Ty.str Ty.unit))) x0)), (1, PV.a (Atom.val (Value.int IntKind.i64 x1))), (5, PV.a (Atom.val (Value.int IntKind.i64 v5)))]
def L50_2 (v5 : Int) (x0 : List (ByteArray × ByteArray × ByteArray × Unit)) (x1 : Int) : Heap := []
mutual
def R50 : Nat → List (ByteArray × ByteArray × ByteArray × Unit) → Int → List Dyn → Prop
  | 0, _, _, _ => False
  | n + 1, x0, x1, ds => (R50_2 n (0) (x0) (x1) ds)
def R50_2 : Nat → Int → List (ByteArray × ByteArray × ByteArray × Unit) → Int → List Dyn → Prop
  | 0, _, _, _, _ => False
  | n + 1, v5, x0, x1, ds => (if (Decidable.decide (v5 < (↑(List.length x0) : Int))) = true then ((0 ≤ v5) ∧ (v5 < (↑(List.length x0) : Int)) ∧ (if (!ByteArray.toList (Prod.fst (List.getD x0 (Int.toNat v5) (ByteArray.empty, ByteArray.empty, ByteArray.empty, ()))) == ByteArray.toList (g72_0 x1)) = true then (ds = [Dyn.mk (Ty.int IntKind.i64) (-1)]) else ((InR IntKind.i64 (x1 + 1)) ∧ ((0 ≤ v5) ∧ (v5 < (↑(List.length x0) : Int)) ∧ (if (!ByteArray.toList (Prod.fst (Prod.snd (List.getD x0 (Int.toNat v5) (ByteArray.empty, ByteArray.empty, ByteArray.empty, ())))) == ByteArray.toList (g72_0 (x1 + 1))) = true then (ds = [Dyn.mk (Ty.int IntKind.i64) (-1)]) else ((InR IntKind.i64 (x1 + 1 + 1)) ∧ ((0 ≤ v5) ∧ (v5 < (↑(List.length x0) : Int)) ∧ (if (!ByteArray.toList (Prod.fst (Prod.snd (Prod.snd (List.getD x0 (Int.toNat v5) (ByteArray.empty, ByteArray.empty, ByteArray.empty, ()))))) == ByteArray.toList (g72_0 (x1 + 1 + 1))) = true then (ds = [Dyn.mk (Ty.int IntKind.i64) (-1)]) else ((InR IntKind.i64 (x1 + 1 + 1 + 1)) ∧ ((InR IntKind.i64 (v5 + 1)) ∧ (R50_2 n (v5 + 1) (x0) (x1 + 1 + 1 + 1) ds))))))))))) else (ds = [Dyn.mk (Ty.int IntKind.i64) x1]))
end
theorem p50_0 (x0 : List (ByteArray × ByteArray × ByteArray × Unit)) (x1 : Int) : Am.runN tab ext50 false 43 [] 2000 [] [] [0, 1, 5] [] [] [.code b50] (entE 0 0 sig50 (x0, x1, ())) (entL sig50 (x0, x1, ())) = some (cutAt b50 2, E50_2 (0) (x0) (x1), L50_2 (0) (x0) (x1), []) := by kernel_rfl
theorem p50_1 (v5 : Int) (x0 : List (ByteArray × ByteArray × ByteArray × Unit)) (x1 : Int) : runF tab ext50 false 43 [] 2000 [] tys50 Try.f50.results [true, true] (cutAt b50 2) (E50_2 v5 x0 x1) (L50_2 v5 x0 x1) = some ([Dyn.mk (Ty.int IntKind.i64) (-1)], [], [Decidable.decide (v5 < (↑(List.length x0) : Int)) = Bool.true, 0 ≤ v5, v5 < (↑(List.length x0) : Int), True, (!ByteArray.toList (Prod.fst (List.getD x0 (Int.toNat v5) (ByteArray.empty, ByteArray.empty, ByteArray.empty, ()))) == ByteArray.toList (g72_0 x1)) = Bool.true]) := by kernel_rfl
theorem p50_2 (v5 : Int) (x0 : List (ByteArray × ByteArray × ByteArray × Unit)) (x1 : Int) : runF tab ext50 false 43 [] 2000 [] tys50 Try.f50.results [true, false, true] (cutAt b50 2) (E50_2 v5 x0 x1) (L50_2 v5 x0 x1) = some ([Dyn.mk (Ty.int IntKind.i64) (-1)], [], [Decidable.decide (v5 < (↑(List.length x0) : Int)) = Bool.true, 0 ≤ v5, v5 < (↑(List.length x0) : Int), True, (!ByteArray.toList (Prod.fst (List.getD x0 (Int.toNat v5) (ByteArray.empty, ByteArray.empty, ByteArray.empty, ()))) == ByteArray.toList (g72_0 x1)) = Bool.false, InR IntKind.i64 (x1 + 1), 0 ≤ v5, v5 < (↑(List.length x0) : Int), True, (!ByteArray.toList (Prod.fst (Prod.snd (List.getD x0 (Int.toNat v5) (ByteArray.empty, ByteArray.empty, ByteArray.empty, ())))) == ByteArray.toList (g72_0 (x1 + 1))) = Bool.true]) := by kernel_rfl
theorem p50_3 (v5 : Int) (x0 : List (ByteArray × ByteArray × ByteArray × Unit)) (x1 : Int) : runF tab ext50 false 43 [] 2000 [] tys50 Try.f50.results [true, false, false, true] (cutAt b50 2) (E50_2 v5 x0 x1) (L50_2 v5 x0 x1) = some ([Dyn.mk (Ty.int IntKind.i64) (-1)], [], [Decidable.decide (v5 < (↑(List.length x0) : Int)) = Bool.true, 0 ≤ v5, v5 < (↑(List.length x0) : Int), True, (!ByteArray.toList (Prod.fst (List.getD x0 (Int.toNat v5) (ByteArray.empty, ByteArray.empty, ByteArray.empty, ()))) == ByteArray.toList (g72_0 x1)) = Bool.false, InR IntKind.i64 (x1 + 1), 0 ≤ v5, v5 < (↑(List.length x0) : Int), True, (!ByteArray.toList (Prod.fst (Prod.snd (List.getD x0 (Int.toNat v5) (ByteArray.empty, ByteArray.empty, ByteArray.empty, ())))) == ByteArray.toList (g72_0 (x1 + 1))) = Bool.false, InR IntKind.i64 (x1 + 1 + 1), 0 ≤ v5, v5 < (↑(List.length x0) : Int), True, (!ByteArray.toList (Prod.fst (Prod.snd (Prod.snd (List.getD x0 (Int.toNat v5) (ByteArray.empty, ByteArray.empty, ByteArray.empty, ()))))) == ByteArray.toList (g72_0 (x1 + 1 + 1))) = Bool.true]) := by kernel_rfl
theorem p50_4 (v5 : Int) (x0 : List (ByteArray × ByteArray × ByteArray × Unit)) (x1 : Int) : Am.runN tab ext50 false 43 [] 2000 [] [] [0, 1, 5] [] [true, false, false, false] (cutAt b50 2) (E50_2 v5 x0 x1) (L50_2 v5 x0 x1) = some (cutAt b50 2, E50_2 (v5 + 1) (x0) (x1 + 1 + 1 + 1), L50_2 (v5 + 1) (x0) (x1 + 1 + 1 + 1), [Decidable.decide (v5 < (↑(List.length x0) : Int)) = Bool.true, 0 ≤ v5, v5 < (↑(List.length x0) : Int), True, (!ByteArray.toList (Prod.fst (List.getD x0 (Int.toNat v5) (ByteArray.empty, ByteArray.empty, ByteArray.empty, ()))) == ByteArray.toList (g72_0 x1)) = Bool.false, InR IntKind.i64 (x1 + 1), 0 ≤ v5, v5 < (↑(List.length x0) : Int), True, (!ByteArray.toList (Prod.fst (Prod.snd (List.getD x0 (Int.toNat v5) (ByteArray.empty, ByteArray.empty, ByteArray.empty, ())))) == ByteArray.toList (g72_0 (x1 + 1))) = Bool.false, InR IntKind.i64 (x1 + 1 + 1), 0 ≤ v5, v5 < (↑(List.length x0) : Int), True, (!ByteArray.toList (Prod.fst (Prod.snd (Prod.snd (List.getD x0 (Int.toNat v5) (ByteArray.empty, ByteArray.empty, ByteArray.empty, ()))))) == ByteArray.toList (g72_0 (x1 + 1 + 1))) = Bool.false, InR IntKind.i64 (x1 + 1 + 1 + 1), InR IntKind.i64 (v5 + 1)]) := by kernel_rfl
theorem p50_5 (v5 : Int) (x0 : List (ByteArray × ByteArray × ByteArray × Unit)) (x1 : Int) : runF tab ext50 false 43 [] 2000 [] tys50 Try.f50.results [false] (cutAt b50 2) (E50_2 v5 x0 x1) (L50_2 v5 x0 x1) = some ([Dyn.mk (Ty.int IntKind.i64) x1], [], [Decidable.decide (v5 < (↑(List.length x0) : Int)) = Bool.false]) := by kernel_rfl
theorem snd50 : ∀ n, (∀ (x0 : List (ByteArray × ByteArray × ByteArray × Unit)) (x1 : Int) ds, R50 n x0 x1 ds → ∀ w0 O q, AtV Try.prog 50 (PostR ds [] [] q w0 O) 43 w0 O q [] [.code b50] (entE 0 0 sig50 (x0, x1, ())) (entL sig50 (x0, x1, ()))) ∧ (∀ (v5 : Int) (x0 : List (ByteArray × ByteArray × ByteArray × Unit)) (x1 : Int) ds, R50_2 n v5 x0 x1 ds → ∀ w0 O q, AtV Try.prog 50 (PostR ds [] [] q w0 O) 43 w0 O q [] (cutAt b50 2) (E50_2 v5 x0 x1) (L50_2 v5 x0 x1)) := by
  intro n
  induction n with
  | zero => exact ⟨fun _ _ _ h => by simp only [R50] at h, fun _ _ _ _ h => by simp only [R50_2] at h⟩
  | succ n ih =>
  obtain ⟨ih, ih2⟩ := ih
  refine ⟨?_, ?_⟩
  · intro x0 x1 ds h w0 O q
    rw [R50] at h
    exact AtV.runN tabOk ext50Ok mixed (p50_0 x0 x1) trivial (ih2 _ _ _ _ h w0 O q)

  · intro v5 x0 x1 ds h w0 O q
    rw [R50_2] at h
    by_cases b0 : (Decidable.decide (v5 < (↑(List.length x0) : Int))) = true
    · rw [if_pos b0] at h
      obtain ⟨s0, s1, h⟩ := h
      by_cases b1 : (!ByteArray.toList (Prod.fst (List.getD x0 (Int.toNat v5) (ByteArray.empty, ByteArray.empty, ByteArray.empty, ()))) == ByteArray.toList (g72_0 x1)) = true
      · rw [if_pos b1] at h
        subst h
        exact AtV.fin Try.func50 tabOk ext50Ok mixed (p50_1 v5 x0 x1) ⟨b0, s0, s1, trivial, b1, trivial⟩
      · rw [if_neg b1] at h
        replace b1 := Bool.eq_false_iff.2 b1
        obtain ⟨s2, h⟩ := h
        obtain ⟨s3, s4, h⟩ := h
        by_cases b2 : (!ByteArray.toList (Prod.fst (Prod.snd (List.getD x0 (Int.toNat v5) (ByteArray.empty, ByteArray.empty, ByteArray.empty, ())))) == ByteArray.toList (g72_0 (x1 + 1))) = true
        · rw [if_pos b2] at h
          subst h
          exact AtV.fin Try.func50 tabOk ext50Ok mixed (p50_2 v5 x0 x1) ⟨b0, s0, s1, trivial, b1, s2, s3, s4, trivial, b2, trivial⟩
        · rw [if_neg b2] at h
          replace b2 := Bool.eq_false_iff.2 b2
          obtain ⟨s5, h⟩ := h
          obtain ⟨s6, s7, h⟩ := h
          by_cases b3 : (!ByteArray.toList (Prod.fst (Prod.snd (Prod.snd (List.getD x0 (Int.toNat v5) (ByteArray.empty, ByteArray.empty, ByteArray.empty, ()))))) == ByteArray.toList (g72_0 (x1 + 1 + 1))) = true
          · rw [if_pos b3] at h
            subst h
            exact AtV.fin Try.func50 tabOk ext50Ok mixed (p50_3 v5 x0 x1) ⟨b0, s0, s1, trivial, b1, s2, s3, s4, trivial, b2, s5, s6, s7, trivial, b3, trivial⟩
          · rw [if_neg b3] at h
            replace b3 := Bool.eq_false_iff.2 b3
            obtain ⟨s8, h⟩ := h
            obtain ⟨s9, h⟩ := h
            exact AtV.runN tabOk ext50Ok mixed (p50_4 v5 x0 x1) ⟨b0, s0, s1, trivial, b1, s2, s3, s4, trivial, b2, s5, s6, s7, trivial, b3, s8, s9, trivial⟩ (ih2 _ _ _ _ h w0 O q)
    · rw [if_neg b0] at h
      replace b0 := Bool.eq_false_iff.2 b0
      subst h
      exact AtV.fin Try.func50 tabOk ext50Ok mixed (p50_5 v5 x0 x1) ⟨b0, trivial⟩



theorem run50 (x0 : List (ByteArray × ByteArray × ByteArray × Unit)) (x1 : Int) (hm : x0.length ≤ maxLen) (h0 : 0 ≤ x1) (h1 : x1 + 3 * x0.length ≤ 9223372036854775807) (he : ∀ i : Nat, i < x0.length → x0.getD i (ByteArray.empty, ByteArray.empty, ByteArray.empty, ()) = (g72_0 (x1 + 3 * (i : Int)), g72_0 (x1 + 3 * (i : Int) + 1), g72_0 (x1 + 3 * (i : Int) + 1 + 1), ())) : ∀ (k i : Nat), i + k = x0.length →
    R50_2 (k + 1) (i : Int) x0 (x1 + 3 * (i : Int)) [⟨.int .i64, x1 + 3 * (x0.length : Int)⟩] := by
  intro k
  induction k with
  | zero =>
    intro i hi
    rw [R50_2, if_neg (by simp; omega)]
    have : i = x0.length := by omega
    subst this
    rfl
  | succ k ih =>
    intro i hi
    rw [R50_2, if_pos (by simp; omega)]
    simp only [Int.toNat_natCast, he i (by omega)]
    have hb : ∀ y : ByteArray, (!(ByteArray.toList y == ByteArray.toList y)) = true → False := fun y h => by rw [(bytes_eq y y).2 rfl] at h; cases h
    refine ⟨by omega, by omega, ?_⟩
    rw [if_neg (hb _)]
    refine ⟨by rw [i64_iff]; omega, by omega, by omega, ?_⟩
    rw [if_neg (hb _)]
    refine ⟨by rw [i64_iff]; omega, by omega, by omega, ?_⟩
    rw [if_neg (hb _)]
    refine ⟨by rw [i64_iff]; omega, inR_up hm (by omega), ?_⟩
    have hx : x1 + 3 * (i : Int) + 1 + 1 + 1 = x1 + 3 * ((i + 1 : Nat) : Int) := by omega
    rw [hx]
    exact ih (i + 1) (by omega)

def P50 (x0 : List (ByteArray × ByteArray × ByteArray × Unit)) (x1 : Int) : Prop := (0 ≤ x1 ∧ x1 + 3 * x0.length ≤ 9223372036854775807) ∧ ∀ i : Nat, i < x0.length → x0.getD i (ByteArray.empty, ByteArray.empty, ByteArray.empty, ()) = (g72_0 (x1 + 3 * (i : Int)), g72_0 (x1 + 3 * (i : Int) + 1), g72_0 (x1 + 3 * (i : Int) + 1 + 1), ())
def g50_0 (x0 : List (ByteArray × ByteArray × ByteArray × Unit)) (x1 : Int) : Int := x1 + 3 * (x0.length : Int)

theorem top50 (x0 : List (ByteArray × ByteArray × ByteArray × Unit)) (x1 : Int) (hm : x0.length ≤ maxLen) (h : P50 x0 x1) : R50 (x0.length + 1 + 1) x0 x1 [⟨.int .i64, g50_0 x0 x1⟩] := by
  rw [R50]
  have := run50 x0 x1 hm h.1.1 h.1.2 h.2 x0.length 0 (by omega)
  simpa [g50_0] using this

def S50 : Am.Spec := { sig := sig50, pre := fun ⟨x0, x1, _⟩ => P50 x0 x1, res := fun ⟨x0, x1, _⟩ => [⟨.int .i64, g50_0 x0 x1⟩] }
theorem con50 : Contract Try.prog 50 S50 := contract_of Try.func50 hb50 (Nat.le_of_ble_eq_true (by kernel_rfl)) (fun ⟨x0, x1, _⟩ h hwf w0 O q =>
  (snd50 _).1 x0 x1 _ (top50 x0 x1 hwf.1.1 h) w0 O q)

end Go.Proofs.Ytjkeinpcphkfbaa

/- Function 10 (laws.FnExactDropBlock): its runs between cut points. Written by a program of this repo (gen). -/
set_option linter.unusedVariables false
set_option linter.unusedSimpArgs false
set_option maxRecDepth 100000
namespace Go.Proofs.Ytjkeinpcphkfbaa
open Go Go.Am Go.Proofs
def ext10 : Ext := [(34, S34), (36, S36), (48, S48), (49, S49), (38, S38), (47, S47), (50, S50)]
theorem call10_34 : Callable Try.prog 34 := ⟨Try.f34, Try.func34, by kernel_rfl, by kernel_rfl⟩
theorem call10_36 : Callable Try.prog 36 := ⟨Try.f36, Try.func36, by kernel_rfl, by kernel_rfl⟩
theorem call10_48 : Callable Try.prog 48 := ⟨Try.f48, Try.func48, by kernel_rfl, by kernel_rfl⟩
theorem call10_49 : Callable Try.prog 49 := ⟨Try.f49, Try.func49, by kernel_rfl, by kernel_rfl⟩
theorem call10_38 : Callable Try.prog 38 := ⟨Try.f38, Try.func38, by kernel_rfl, by kernel_rfl⟩
theorem call10_47 : Callable Try.prog 47 := ⟨Try.f47, Try.func47, by kernel_rfl, by kernel_rfl⟩
theorem call10_50 : Callable Try.prog 50 := ⟨Try.f50, Try.func50, by kernel_rfl, by kernel_rfl⟩
theorem ext10Ok : ExtOk Try.prog ext10 := ⟨⟨call10_34, con34⟩, ⟨call10_36, con36⟩, ⟨call10_48, con48⟩, ⟨call10_49, con49⟩, ⟨call10_38, con38⟩, ⟨call10_47, con47⟩, ⟨call10_50, con50⟩, trivial⟩
/-! Function 10. -/
noncomputable def b10 : Code := bodyOf Try.f10
theorem hb10 : Try.f10.body = some b10 := by kernel_rfl
def sig10 : List AT := [AT.v (Ty.sl (Ty.cons Ty.str (Ty.cons Ty.str (Ty.cons Ty.str Ty.unit)))), AT.v (Ty.str), AT.v (Ty.str)]
def tys10 : List Ty := [Ty.bool]
def P10 (x0 : List (ByteArray × ByteArray × ByteArray × Unit)) (x1 : ByteArray) (x2 : ByteArray) : Prop := (if (Decidable.decide ((↑(ByteArray.size x1) : Int) > 1048576)) = true then True else (if (Decidable.decide ((↑(ByteArray.size x2) : Int) > 1048576)) = true then True else ((P34 x0 1048576) ∧ (if (Decidable.decide (g34_0 x0 1048576 < 0)) = true then True else ((P36 x0) ∧ ((P48 (g36_0 x0) x1 x2) ∧ ((P36 x0) ∧ ((P49 (g36_0 x0) x1 x2) ∧ (if (!g38_0 (g49_0 (g36_0 x0) x1 x2) (g48_0 (g36_0 x0) x1 x2)) = true then True else (if (g49_1 (g36_0 x0) x1 x2 != g48_1 (g36_0 x0) x1 x2) = true then True else ((P36 x0) ∧ (if (!g38_0 (g36_0 x0) (g36_0 x0)) = true then True else ((P47 (g36_0 x0) 1) ∧ (List.length (u47_0 (g36_0 x0) 1) = List.length (g36_0 x0)) ∧ (if (Decidable.decide (g47_0 (g36_0 x0) 1 < 0)) = true then True else ((P47 (g49_0 (g36_0 x0) x1 x2) 1) ∧ (List.length (u47_0 (g49_0 (g36_0 x0) x1 x2) 1) = List.length (g49_0 (g36_0 x0) x1 x2)) ∧ ((P50 (u47_0 (g49_0 (g36_0 x0) x1 x2) 1) 1) ∧ (if (Decidable.decide (g50_0 (u47_0 (g49_0 (g36_0 x0) x1 x2) 1) 1 < 0)) = true then True else (if (g50_0 (u47_0 (g49_0 (g36_0 x0) x1 x2) 1) 1 != g47_0 (g49_0 (g36_0 x0) x1 x2) 1) = true then True else ((P36 x0) ∧ ((P49 (g36_0 x0) x1 x2) ∧ ((P50 (u47_0 (g49_0 (g36_0 x0) x1 x2) 1) 1) ∧ True)))))))))))))))))))))
def g10_0 (x0 : List (ByteArray × ByteArray × ByteArray × Unit)) (x1 : ByteArray) (x2 : ByteArray) : Bool := (if (Decidable.decide ((↑(ByteArray.size x1) : Int) > 1048576)) = true then Bool.true else (if (Decidable.decide ((↑(ByteArray.size x2) : Int) > 1048576)) = true then Bool.true else (if (Decidable.decide (g34_0 x0 1048576 < 0)) = true then Bool.true else (if (!g38_0 (g49_0 (g36_0 x0) x1 x2) (g48_0 (g36_0 x0) x1 x2)) = true then Bool.false else (if (g49_1 (g36_0 x0) x1 x2 != g48_1 (g36_0 x0) x1 x2) = true then Bool.false else (if (!g38_0 (g36_0 x0) (g36_0 x0)) = true then Bool.false else (if (Decidable.decide (g47_0 (g36_0 x0) 1 < 0)) = true then Bool.false else (if (Decidable.decide (g50_0 (u47_0 (g49_0 (g36_0 x0) x1 x2) 1) 1 < 0)) = true then Bool.false else (if (g50_0 (u47_0 (g49_0 (g36_0 x0) x1 x2) 1) 1 != g47_0 (g49_0 (g36_0 x0) x1 x2) 1) = true then Bool.false else Bool.true)))))))))
theorem p10_0 (x0 : List (ByteArray × ByteArray × ByteArray × Unit)) (x1 : ByteArray) (x2 : ByteArray) : runF tab ext10 false 112 [] 2000 [] tys10 Try.f10.results [true] [.code b10] (entE 0 0 sig10 (x0, x1, x2, ())) (entL sig10 (x0, x1, x2, ())) = some ([Dyn.mk Ty.bool Bool.true], [], [Decidable.decide ((↑(ByteArray.size x1) : Int) > 1048576) = Bool.true]) := by kernel_rfl
theorem p10_1 (x0 : List (ByteArray × ByteArray × ByteArray × Unit)) (x1 : ByteArray) (x2 : ByteArray) : runF tab ext10 false 112 [] 2000 [] tys10 Try.f10.results [false, true] [.code b10] (entE 0 0 sig10 (x0, x1, x2, ())) (entL sig10 (x0, x1, x2, ())) = some ([Dyn.mk Ty.bool Bool.true], [], [Decidable.decide ((↑(ByteArray.size x1) : Int) > 1048576) = Bool.false, Decidable.decide ((↑(ByteArray.size x2) : Int) > 1048576) = Bool.true]) := by kernel_rfl
theorem p10_2 (x0 : List (ByteArray × ByteArray × ByteArray × Unit)) (x1 : ByteArray) (x2 : ByteArray) : runF tab ext10 false 112 [] 2000 [] tys10 Try.f10.results [false, false, true] [.code b10] (entE 0 0 sig10 (x0, x1, x2, ())) (entL sig10 (x0, x1, x2, ())) = some ([Dyn.mk Ty.bool Bool.true], [], [Decidable.decide ((↑(ByteArray.size x1) : Int) > 1048576) = Bool.false, Decidable.decide ((↑(ByteArray.size x2) : Int) > 1048576) = Bool.false, P34 x0 1048576, Decidable.decide (g34_0 x0 1048576 < 0) = Bool.true]) := by kernel_rfl
theorem p10_3 (x0 : List (ByteArray × ByteArray × ByteArray × Unit)) (x1 : ByteArray) (x2 : ByteArray) : runF tab ext10 false 112 [] 2000 [] tys10 Try.f10.results [false, false, false, true, true] [.code b10] (entE 0 0 sig10 (x0, x1, x2, ())) (entL sig10 (x0, x1, x2, ())) = some ([Dyn.mk Ty.bool Bool.false], [], [Decidable.decide ((↑(ByteArray.size x1) : Int) > 1048576) = Bool.false, Decidable.decide ((↑(ByteArray.size x2) : Int) > 1048576) = Bool.false, P34 x0 1048576, Decidable.decide (g34_0 x0 1048576 < 0) = Bool.false, P36 x0, P48 (g36_0 x0) x1 x2, P36 x0, P49 (g36_0 x0) x1 x2, True, (!g38_0 (g49_0 (g36_0 x0) x1 x2) (g48_0 (g36_0 x0) x1 x2)) = Bool.true, Bool.true = Bool.true]) := by kernel_rfl
theorem p10_4 (x0 : List (ByteArray × ByteArray × ByteArray × Unit)) (x1 : ByteArray) (x2 : ByteArray) : runF tab ext10 false 112 [] 2000 [] tys10 Try.f10.results [false, false, false, false, true] [.code b10] (entE 0 0 sig10 (x0, x1, x2, ())) (entL sig10 (x0, x1, x2, ())) = some ([Dyn.mk Ty.bool Bool.false], [], [Decidable.decide ((↑(ByteArray.size x1) : Int) > 1048576) = Bool.false, Decidable.decide ((↑(ByteArray.size x2) : Int) > 1048576) = Bool.false, P34 x0 1048576, Decidable.decide (g34_0 x0 1048576 < 0) = Bool.false, P36 x0, P48 (g36_0 x0) x1 x2, P36 x0, P49 (g36_0 x0) x1 x2, True, (!g38_0 (g49_0 (g36_0 x0) x1 x2) (g48_0 (g36_0 x0) x1 x2)) = Bool.false, (g49_1 (g36_0 x0) x1 x2 != g48_1 (g36_0 x0) x1 x2) = Bool.true]) := by kernel_rfl
theorem p10_5 (x0 : List (ByteArray × ByteArray × ByteArray × Unit)) (x1 : ByteArray) (x2 : ByteArray) : runF tab ext10 false 112 [] 2000 [] tys10 Try.f10.results [false, false, false, false, false, true] [.code b10] (entE 0 0 sig10 (x0, x1, x2, ())) (entL sig10 (x0, x1, x2, ())) = some ([Dyn.mk Ty.bool Bool.false], [], [Decidable.decide ((↑(ByteArray.size x1) : Int) > 1048576) = Bool.false, Decidable.decide ((↑(ByteArray.size x2) : Int) > 1048576) = Bool.false, P34 x0 1048576, Decidable.decide (g34_0 x0 1048576 < 0) = Bool.false, P36 x0, P48 (g36_0 x0) x1 x2, P36 x0, P49 (g36_0 x0) x1 x2, True, (!g38_0 (g49_0 (g36_0 x0) x1 x2) (g48_0 (g36_0 x0) x1 x2)) = Bool.false, (g49_1 (g36_0 x0) x1 x2 != g48_1 (g36_0 x0) x1 x2) = Bool.false, P36 x0, True, (!g38_0 (g36_0 x0) (g36_0 x0)) = Bool.true]) := by kernel_rfl
theorem p10_6 (x0 : List (ByteArray × ByteArray × ByteArray × Unit)) (x1 : ByteArray) (x2 : ByteArray) : runF tab ext10 false 112 [] 2000 [] tys10 Try.f10.results [false, false, false, false, false, false, true, true, true] [.code b10] (entE 0 0 sig10 (x0, x1, x2, ())) (entL sig10 (x0, x1, x2, ())) = some ([Dyn.mk Ty.bool Bool.false], [], [Decidable.decide ((↑(ByteArray.size x1) : Int) > 1048576) = Bool.false, Decidable.decide ((↑(ByteArray.size x2) : Int) > 1048576) = Bool.false, P34 x0 1048576, Decidable.decide (g34_0 x0 1048576 < 0) = Bool.false, P36 x0, P48 (g36_0 x0) x1 x2, P36 x0, P49 (g36_0 x0) x1 x2, True, (!g38_0 (g49_0 (g36_0 x0) x1 x2) (g48_0 (g36_0 x0) x1 x2)) = Bool.false, (g49_1 (g36_0 x0) x1 x2 != g48_1 (g36_0 x0) x1 x2) = Bool.false, P36 x0, True, (!g38_0 (g36_0 x0) (g36_0 x0)) = Bool.false, P47 (g36_0 x0) 1, List.length (u47_0 (g36_0 x0) 1) = List.length (g36_0 x0), Decidable.decide (g47_0 (g36_0 x0) 1 < 0) = Bool.true, Bool.true = Bool.true, Bool.true = Bool.true]) := by kernel_rfl
theorem p10_7 (x0 : List (ByteArray × ByteArray × ByteArray × Unit)) (x1 : ByteArray) (x2 : ByteArray) : runF tab ext10 false 112 [] 2000 [] tys10 Try.f10.results [false, false, false, false, false, false, false, false, false, true] [.code b10] (entE 0 0 sig10 (x0, x1, x2, ())) (entL sig10 (x0, x1, x2, ())) = some ([Dyn.mk Ty.bool Bool.false], [], [Decidable.decide ((↑(ByteArray.size x1) : Int) > 1048576) = Bool.false, Decidable.decide ((↑(ByteArray.size x2) : Int) > 1048576) = Bool.false, P34 x0 1048576, Decidable.decide (g34_0 x0 1048576 < 0) = Bool.false, P36 x0, P48 (g36_0 x0) x1 x2, P36 x0, P49 (g36_0 x0) x1 x2, True, (!g38_0 (g49_0 (g36_0 x0) x1 x2) (g48_0 (g36_0 x0) x1 x2)) = Bool.false, (g49_1 (g36_0 x0) x1 x2 != g48_1 (g36_0 x0) x1 x2) = Bool.false, P36 x0, True, (!g38_0 (g36_0 x0) (g36_0 x0)) = Bool.false, P47 (g36_0 x0) 1, List.length (u47_0 (g36_0 x0) 1) = List.length (g36_0 x0), Decidable.decide (g47_0 (g36_0 x0) 1 < 0) = Bool.false, True, (!g38_0 (g49_0 (g36_0 x0) x1 x2) (g48_0 (g36_0 x0) x1 x2)) = Bool.false, (g49_1 (g36_0 x0) x1 x2 != g48_1 (g36_0 x0) x1 x2) = Bool.false, P47 (g49_0 (g36_0 x0) x1 x2) 1, List.length (u47_0 (g49_0 (g36_0 x0) x1 x2) 1) = List.length (g49_0 (g36_0 x0) x1 x2), P50 (u47_0 (g49_0 (g36_0 x0) x1 x2) 1) 1, Decidable.decide (g50_0 (u47_0 (g49_0 (g36_0 x0) x1 x2) 1) 1 < 0) = Bool.true]) := by kernel_rfl
theorem p10_8 (x0 : List (ByteArray × ByteArray × ByteArray × Unit)) (x1 : ByteArray) (x2 : ByteArray) : runF tab ext10 false 112 [] 2000 [] tys10 Try.f10.results [false, false, false, false, false, false, false, false, false, false, true] [.code b10] (entE 0 0 sig10 (x0, x1, x2, ())) (entL sig10 (x0, x1, x2, ())) = some ([Dyn.mk Ty.bool Bool.false], [], [Decidable.decide ((↑(ByteArray.size x1) : Int) > 1048576) = Bool.false, Decidable.decide ((↑(ByteArray.size x2) : Int) > 1048576) = Bool.false, P34 x0 1048576, Decidable.decide (g34_0 x0 1048576 < 0) = Bool.false, P36 x0, P48 (g36_0 x0) x1 x2, P36 x0, P49 (g36_0 x0) x1 x2, True, (!g38_0 (g49_0 (g36_0 x0) x1 x2) (g48_0 (g36_0 x0) x1 x2)) = Bool.false, (g49_1 (g36_0 x0) x1 x2 != g48_1 (g36_0 x0) x1 x2) = Bool.false, P36 x0, True, (!g38_0 (g36_0 x0) (g36_0 x0)) = Bool.false, P47 (g36_0 x0) 1, List.length (u47_0 (g36_0 x0) 1) = List.length (g36_0 x0), Decidable.decide (g47_0 (g36_0 x0) 1 < 0) = Bool.false, True, (!g38_0 (g49_0 (g36_0 x0) x1 x2) (g48_0 (g36_0 x0) x1 x2)) = Bool.false, (g49_1 (g36_0 x0) x1 x2 != g48_1 (g36_0 x0) x1 x2) = Bool.false, P47 (g49_0 (g36_0 x0) x1 x2) 1, List.length (u47_0 (g49_0 (g36_0 x0) x1 x2) 1) = List.length (g49_0 (g36_0 x0) x1 x2), P50 (u47_0 (g49_0 (g36_0 x0) x1 x2) 1) 1, Decidable.decide (g50_0 (u47_0 (g49_0 (g36_0 x0) x1 x2) 1) 1 < 0) = Bool.false, (g50_0 (u47_0 (g49_0 (g36_0 x0) x1 x2) 1) 1 != g47_0 (g49_0 (g36_0 x0) x1 x2) 1) = Bool.true]) := by kernel_rfl
theorem p10_9 (x0 : List (ByteArray × ByteArray × ByteArray × Unit)) (x1 : ByteArray) (x2 : ByteArray) : runF tab ext10 false 112 [] 2000 [] tys10 Try.f10.results [false, false, false, false, false, false, false, false, false, false, false, false, false, false, false] [.code b10] (entE 0 0 sig10 (x0, x1, x2, ())) (entL sig10 (x0, x1, x2, ())) = some ([Dyn.mk Ty.bool Bool.true], [], [Decidable.decide ((↑(ByteArray.size x1) : Int) > 1048576) = Bool.false, Decidable.decide ((↑(ByteArray.size x2) : Int) > 1048576) = Bool.false, P34 x0 1048576, Decidable.decide (g34_0 x0 1048576 < 0) = Bool.false, P36 x0, P48 (g36_0 x0) x1 x2, P36 x0, P49 (g36_0 x0) x1 x2, True, (!g38_0 (g49_0 (g36_0 x0) x1 x2) (g48_0 (g36_0 x0) x1 x2)) = Bool.false, (g49_1 (g36_0 x0) x1 x2 != g48_1 (g36_0 x0) x1 x2) = Bool.false, P36 x0, True, (!g38_0 (g36_0 x0) (g36_0 x0)) = Bool.false, P47 (g36_0 x0) 1, List.length (u47_0 (g36_0 x0) 1) = List.length (g36_0 x0), Decidable.decide (g47_0 (g36_0 x0) 1 < 0) = Bool.false, True, (!g38_0 (g49_0 (g36_0 x0) x1 x2) (g48_0 (g36_0 x0) x1 x2)) = Bool.false, (g49_1 (g36_0 x0) x1 x2 != g48_1 (g36_0 x0) x1 x2) = Bool.false, P47 (g49_0 (g36_0 x0) x1 x2) 1, List.length (u47_0 (g49_0 (g36_0 x0) x1 x2) 1) = List.length (g49_0 (g36_0 x0) x1 x2), P50 (u47_0 (g49_0 (g36_0 x0) x1 x2) 1) 1, Decidable.decide (g50_0 (u47_0 (g49_0 (g36_0 x0) x1 x2) 1) 1 < 0) = Bool.false, (g50_0 (u47_0 (g49_0 (g36_0 x0) x1 x2) 1) 1 != g47_0 (g49_0 (g36_0 x0) x1 x2) 1) = Bool.false, P36 x0, P49 (g36_0 x0) x1 x2, True, (!g38_0 (g49_0 (g36_0 x0) x1 x2) (g48_0 (g36_0 x0) x1 x2)) = Bool.false, (g49_1 (g36_0 x0) x1 x2 != g48_1 (g36_0 x0) x1 x2) = Bool.false, P50 (u47_0 (g49_0 (g36_0 x0) x1 x2) 1) 1, Decidable.decide (g50_0 (u47_0 (g49_0 (g36_0 x0) x1 x2) 1) 1 < 0) = Bool.false, (g50_0 (u47_0 (g49_0 (g36_0 x0) x1 x2) 1) 1 != g47_0 (g49_0 (g36_0 x0) x1 x2) 1) = Bool.false]) := by kernel_rfl
theorem at10 (x0 : List (ByteArray × ByteArray × ByteArray × Unit)) (x1 : ByteArray) (x2 : ByteArray) (h : P10 x0 x1 x2) (w0 : World) (O : List Nat) (q : Nat → Value) : AtV Try.prog 10 (PostR [⟨Ty.bool, g10_0 x0 x1 x2⟩] [] [] q w0 O) 112 w0 O q [] [.code b10] (entE 0 0 sig10 (x0, x1, x2, ())) (entL sig10 (x0, x1, x2, ())) := by
  unfold P10 at h
  unfold g10_0
  by_cases b0 : (Decidable.decide ((↑(ByteArray.size x1) : Int) > 1048576)) = true
  · try simp only [if_pos b0] at h ⊢
    exact AtV.fin Try.func10 tabOk ext10Ok mixed (p10_0 x0 x1 x2) ⟨b0, trivial⟩
  · try simp only [if_neg b0] at h ⊢
    replace b0 := Bool.eq_false_iff.2 b0
    by_cases b1 : (Decidable.decide ((↑(ByteArray.size x2) : Int) > 1048576)) = true
    · try simp only [if_pos b1] at h ⊢
      exact AtV.fin Try.func10 tabOk ext10Ok mixed (p10_1 x0 x1 x2) ⟨b0, b1, trivial⟩
    · try simp only [if_neg b1] at h ⊢
      replace b1 := Bool.eq_false_iff.2 b1
      obtain ⟨s0, h⟩ := h
      by_cases b2 : (Decidable.decide (g34_0 x0 1048576 < 0)) = true
      · try simp only [if_pos b2] at h ⊢
        exact AtV.fin Try.func10 tabOk ext10Ok mixed (p10_2 x0 x1 x2) ⟨b0, b1, s0, b2, trivial⟩
      · try simp only [if_neg b2] at h ⊢
        replace b2 := Bool.eq_false_iff.2 b2
        obtain ⟨s1, h⟩ := h
        obtain ⟨s2, h⟩ := h
        obtain ⟨s3, h⟩ := h
        obtain ⟨s4, h⟩ := h
        by_cases b3 : (!g38_0 (g49_0 (g36_0 x0) x1 x2) (g48_0 (g36_0 x0) x1 x2)) = true
        · try simp only [if_pos b3] at h ⊢
          exact AtV.fin Try.func10 tabOk ext10Ok mixed (p10_3 x0 x1 x2) ⟨b0, b1, s0, b2, s1, s2, s3, s4, trivial, b3, rfl, trivial⟩
        · try simp only [if_neg b3] at h ⊢
          replace b3 := Bool.eq_false_iff.2 b3
          by_cases b4 : (g49_1 (g36_0 x0) x1 x2 != g48_1 (g36_0 x0) x1 x2) = true
          · try simp only [if_pos b4] at h ⊢
            exact AtV.fin Try.func10 tabOk ext10Ok mixed (p10_4 x0 x1 x2) ⟨b0, b1, s0, b2, s1, s2, s3, s4, trivial, b3, b4, trivial⟩
          · try simp only [if_neg b4] at h ⊢
            replace b4 := Bool.eq_false_iff.2 b4
            obtain ⟨s5, h⟩ := h
            by_cases b5 : (!g38_0 (g36_0 x0) (g36_0 x0)) = true
            · try simp only [if_pos b5] at h ⊢
              exact AtV.fin Try.func10 tabOk ext10Ok mixed (p10_5 x0 x1 x2) ⟨b0, b1, s0, b2, s1, s2, s3, s4, trivial, b3, b4, s5, trivial, b5, trivial⟩
            · try simp only [if_neg b5] at h ⊢
              replace b5 := Bool.eq_false_iff.2 b5
              obtain ⟨s6, s7, h⟩ := h
              by_cases b6 : (Decidable.decide (g47_0 (g36_0 x0) 1 < 0)) = true
              · try simp only [if_pos b6] at h ⊢
                exact AtV.fin Try.func10 tabOk ext10Ok mixed (p10_6 x0 x1 x2) ⟨b0, b1, s0, b2, s1, s2, s3, s4, trivial, b3, b4, s5, trivial, b5, s6, s7, b6, rfl, rfl, trivial⟩
              · try simp only [if_neg b6] at h ⊢
                replace b6 := Bool.eq_false_iff.2 b6
                obtain ⟨s8, s9, h⟩ := h
                obtain ⟨s10, h⟩ := h
                by_cases b7 : (Decidable.decide (g50_0 (u47_0 (g49_0 (g36_0 x0) x1 x2) 1) 1 < 0)) = true
                · try simp only [if_pos b7] at h ⊢
                  exact AtV.fin Try.func10 tabOk ext10Ok mixed (p10_7 x0 x1 x2) ⟨b0, b1, s0, b2, s1, s2, s3, s4, trivial, b3, b4, s5, trivial, b5, s6, s7, b6, trivial, b3, b4, s8, s9, s10, b7, trivial⟩
                · try simp only [if_neg b7] at h ⊢
                  replace b7 := Bool.eq_false_iff.2 b7
                  by_cases b8 : (g50_0 (u47_0 (g49_0 (g36_0 x0) x1 x2) 1) 1 != g47_0 (g49_0 (g36_0 x0) x1 x2) 1) = true
                  · try simp only [if_pos b8] at h ⊢
                    exact AtV.fin Try.func10 tabOk ext10Ok mixed (p10_8 x0 x1 x2) ⟨b0, b1, s0, b2, s1, s2, s3, s4, trivial, b3, b4, s5, trivial, b5, s6, s7, b6, trivial, b3, b4, s8, s9, s10, b7, b8, trivial⟩
                  · try simp only [if_neg b8] at h ⊢
                    replace b8 := Bool.eq_false_iff.2 b8
                    obtain ⟨s11, h⟩ := h
                    obtain ⟨s12, h⟩ := h
                    obtain ⟨s13, h⟩ := h
                    exact AtV.fin Try.func10 tabOk ext10Ok mixed (p10_9 x0 x1 x2) ⟨b0, b1, s0, b2, s1, s2, s3, s4, trivial, b3, b4, s5, trivial, b5, s6, s7, b6, trivial, b3, b4, s8, s9, s10, b7, b8, s11, s12, trivial, b3, b4, s13, b7, b8, trivial⟩

def S10 : Am.Spec := { sig := sig10, pre := fun ⟨x0, x1, x2, _⟩ => P10 x0 x1 x2, res := fun ⟨x0, x1, x2, _⟩ => [⟨Ty.bool, g10_0 x0 x1 x2⟩] }
theorem con10 : Contract Try.prog 10 S10 := contract_of Try.func10 hb10 (Nat.le_of_ble_eq_true (by kernel_rfl)) (fun ⟨x0, x1, x2, _⟩ h _ w0 O q => at10 x0 x1 x2 h w0 O q)


end Go.Proofs.Ytjkeinpcphkfbaa

/- A law that says how functions of the program and of the specification hang together. -/
set_option linter.unusedVariables false
set_option linter.unusedSimpArgs false
set_option maxRecDepth 100000
namespace Go.Proofs.Ytjkeinpcphkfbaa
open Go Go.Am Go.Proofs

theorem name_eq (s : ByteArray) : g116_0 s = g131_0 s := by
  have hs : ∀ c, g153_0 c = (decide (97 ≤ c) && decide (c ≤ 122)) := fun c => by
    unfold g153_0
    by_cases h1 : (97 : Int) ≤ c <;> simp [h1]
  have hd : ∀ c, g154_0 c = (decide (48 ≤ c) && decide (c ≤ 57)) := fun c => by
    unfold g154_0
    by_cases h1 : (48 : Int) ≤ c <;> simp [h1]
  unfold g116_0 g131_0
  have hl := bytesOf_length s
  by_cases h1 : 1 ≤ s.size
  · cases hb : bytesOf s with
    | nil => rw [hb] at hl; simp at hl; omega
    | cons c r =>
      have hr : allI ok116 1 r = r.all fun b => g153_0 b || g154_0 b := by
        rw [← allI_plain (fun b => g153_0 b || g154_0 b) r 1]
        refine allI_congr r 1 fun j x hj => ?_
        have : (j == 0) = false := by simp; omega
        simp only [ok116, this, hs, hd, Bool.not_false, Bool.true_and]
      have h0 : ok116 0 c = g153_0 c := by simp [ok116, hs]
      simp only [allI, hr, h0, List.all_cons, List.getD_cons_zero]
      cases g153_0 c <;> simp
  · simp [h1]

theorem index_one (c : UInt8) : ∀ s : List UInt8, Lib.index s [c] = Lib.indexByte s c
  | [] => rfl
  | b :: l => by
    have e : (List.isPrefixOf [c] (b :: l)) = (b == c) := by
      simp only [List.isPrefixOf, Bool.and_true]
      exact Bool.beq_comm
    rw [Lib.index, Lib.indexByte, index_one c l, e]

theorem contains_one (s : List UInt8) (c : UInt8) : Lib.contains s [c] = s.contains c := by
  rw [Lib.contains_iff_indexByte, Lib.contains, index_one]

theorem contains_nl (s : ByteArray) : (!g82_0 s (ByteArray.mk #[10])) = (bytesOf s).all fun b => !(b == 10) := by
  unfold g82_0
  rw [show (ByteArray.mk #[10]).data.toList = [10] from rfl, contains_one]
  show (!s.data.toList.contains 10) = ((s.data.toList.map fun b => (b.toNat : Int)).all fun b => !(b == 10))
  induction s.data.toList with
  | nil => rfl
  | cons c r ih =>
    rw [List.contains_cons, Bool.not_or, ih, List.map_cons, List.all_cons]
    congr 2
    by_cases h : c = 10
    · subst h; rfl
    · have h1 : ((10 : UInt8) == c) = false := by simp; exact fun e => h e.symm
      have h2 : ((c.toNat : Int) == 10) = false := by
        rw [beq_eq_false_iff_ne]
        intro e
        exact h (UInt8.toNat_inj.1 (by show c.toNat = 10; omega))
      rw [h1, h2]

theorem block_eq (x : ByteArray × ByteArray × ByteArray × Unit) : g84_0 x = g105_0 x := by
  obtain ⟨a, b, t, u⟩ := x
  unfold g84_0 g105_0
  simp only [name_eq, ← contains_nl]
  have hc : decide ((t.size : Int) ≤ 400) = decide (t.size ≤ 400) := by
    congr 1; exact propext ⟨fun h => by omega, fun h => by omega⟩
  rw [hc]
  cases g131_0 a <;> cases g131_0 b <;> cases decide (t.size ≤ 400) <;> cases g82_0 t (ByteArray.mk #[10]) <;> rfl

end Go.Proofs.Ytjkeinpcphkfbaa

/- A law that says how functions of the program and of the specification hang together. -/
set_option linter.unusedVariables false
set_option linter.unusedSimpArgs false
set_option maxRecDepth 100000
namespace Go.Proofs.Ytjkeinpcphkfbaa
open Go Go.Am Go.Proofs

theorem nan (s : ByteArray) : g136_0 s = false := by simp [g136_0]

theorem cmp_str (a b : ByteArray) : g118_0 a b = if Op.bytesLess (ByteArray.toList a) (ByteArray.toList b) = true then -1 else if (ByteArray.toList a == ByteArray.toList b) = true then 0 else 1 := by
  unfold g118_0
  simp only [nan, Bool.false_eq_true, if_false]
  cases Op.bytesLess (ByteArray.toList a) (ByteArray.toList b) <;> cases (ByteArray.toList a == ByteArray.toList b) <;> rfl

theorem before_cmp (a b : ByteArray × ByteArray × ByteArray × Unit) : (!decide (g85_0 a b ≥ 0)) = g115_0 a b := by
  unfold g85_0 g115_0
  simp only [g117_0, cmp_str]
  cases Op.bytesLess (ByteArray.toList a.1) (ByteArray.toList b.1) <;> cases (ByteArray.toList a.1 == ByteArray.toList b.1) <;> cases Op.bytesLess (ByteArray.toList a.2.1) (ByteArray.toList b.2.1) <;> cases (ByteArray.toList a.2.1 == ByteArray.toList b.2.1) <;> decide

theorem blocks_eq (x : List (ByteArray × ByteArray × ByteArray × Unit)) : g37_0 x = g83_0 x := by
  unfold g37_0 g83_0
  congr 1
  refine allI_congr x 0 fun j y _ => ?_
  unfold ok37 ok83
  rw [block_eq, before_cmp]

end Go.Proofs.Ytjkeinpcphkfbaa

/- A law that says how functions of the program and of the specification hang together. -/
set_option linter.unusedVariables false
set_option linter.unusedSimpArgs false
set_option maxRecDepth 100000
namespace Go.Proofs.Ytjkeinpcphkfbaa
open Go Go.Am Go.Proofs

theorem before_iff (a b : (ByteArray × ByteArray × ByteArray × Unit)) : g115_0 a b = true ↔ sless a.1 b.1 = true ∨ (a.1 = b.1 ∧ sless a.2.1 b.2.1 = true) := by
  unfold g115_0 sless
  have e := bytes_eq a.1 b.1
  cases h1 : Op.bytesLess (ByteArray.toList a.1) (ByteArray.toList b.1) with
  | true => simp
  | false =>
    cases h2 : (ByteArray.toList a.1 == ByteArray.toList b.1) with
    | true => rw [h2] at e; simp [e.1 rfl]
    | false =>
      rw [h2] at e
      have : a.1 ≠ b.1 := fun h => by have := e.2 h; cases this
      simp [this]

theorem before_trans {a b c : (ByteArray × ByteArray × ByteArray × Unit)} (h1 : g115_0 a b = true) (h2 : g115_0 b c = true) : g115_0 a c = true := by
  rw [before_iff] at *
  rcases h1 with h1 | ⟨e1, h1⟩
  · rcases h2 with h2 | ⟨e2, h2⟩
    · exact .inl (sless_trans h1 h2)
    · exact .inl (by rw [← e2]; exact h1)
  · rcases h2 with h2 | ⟨e2, h2⟩
    · exact .inl (by rw [e1]; exact h2)
    · exact .inr ⟨e1.trans e2, sless_trans h1 h2⟩

/-- Two blocks of one kind and name. -/
def twins (a b : (ByteArray × ByteArray × ByteArray × Unit)) : Prop := a.1 = b.1 ∧ a.2.1 = b.2.1

theorem before_twins {a b : (ByteArray × ByteArray × ByteArray × Unit)} (h : twins a b) : g115_0 a b = false := by
  rw [Bool.eq_false_iff]
  intro hb
  rw [before_iff, h.1, h.2, sless_irrefl, sless_irrefl] at hb
  simp at hb

theorem before_left {a b c : (ByteArray × ByteArray × ByteArray × Unit)} (h : twins b c) (hb : g115_0 a b = true) : g115_0 a c = true := by
  rw [before_iff] at *
  rw [← h.1, ← h.2]
  exact hb

theorem before_tri {a b : (ByteArray × ByteArray × ByteArray × Unit)} (h1 : g115_0 a b = false) (h2 : ¬ twins a b) : g115_0 b a = true := by
  rw [Bool.eq_false_iff, ne_eq, before_iff, not_or] at h1
  rw [before_iff]
  cases h3 : sless b.1 a.1 with
  | true => exact .inl rfl
  | false =>
    have e : a.1 = b.1 := sless_tri (Bool.eq_false_iff.2 h1.1) h3
    refine .inr ⟨e.symm, ?_⟩
    cases h4 : sless b.2.1 a.2.1 with
    | true => rfl
    | false =>
      exfalso
      refine h2 ⟨e, sless_tri (Bool.eq_false_iff.2 fun h => h1.2 ⟨e, h⟩) h4⟩

theorem cmp_lt (a b : (ByteArray × ByteArray × ByteArray × Unit)) : decide (g85_0 a b < 0) = g115_0 a b := by
  rw [← before_cmp]
  by_cases h : g85_0 a b < 0
  · have : ¬ g85_0 a b ≥ 0 := by omega
    simp [h]
  · have : g85_0 a b ≥ 0 := by omega
    simp [h, this]

theorem cmp_eq (a b : (ByteArray × ByteArray × ByteArray × Unit)) : (g85_0 a b == 0) = true ↔ twins a b := by
  unfold twins g85_0
  simp only [g117_0, cmp_str]
  rw [← bytes_eq, ← bytes_eq]
  have irr : ∀ s t : ByteArray, (ByteArray.toList s == ByteArray.toList t) = true → Op.bytesLess (ByteArray.toList s) (ByteArray.toList t) = false := fun s t h => by
    rw [(bytes_eq s t).1 h]; exact bl_irrefl _
  cases h1 : (ByteArray.toList a.1 == ByteArray.toList b.1) with
  | true =>
    rw [irr _ _ h1]
    cases h2 : (ByteArray.toList a.2.1 == ByteArray.toList b.2.1) with
    | true => rw [irr _ _ h2]; decide
    | false => cases Op.bytesLess (ByteArray.toList a.2.1) (ByteArray.toList b.2.1) <;> decide
  | false => cases Op.bytesLess (ByteArray.toList a.1) (ByteArray.toList b.1) <;> simp

/-- The blocks of a valid list rise. -/
theorem allI_get {α : Type} {q : Nat → α → Bool} : ∀ {l : List α} {i : Nat}, allI q i l = true → ∀ (j : Nat) (h : j < l.length), q (i + j) l[j] = true
  | x :: r, i, h, j, hj => by
    simp only [allI, Bool.and_eq_true] at h
    cases j with
    | zero => exact h.1
    | succ j =>
      have := allI_get h.2 j (by simpa using hj)
      rw [show i + (j + 1) = i + 1 + j from by omega]
      exact this
  | [], _, _, j, hj => by cases hj

theorem sorted (x : List (ByteArray × ByteArray × ByteArray × Unit)) (h : g83_0 x = true) : x.length ≤ 32 ∧ ∀ i j : Nat, i < j → (hj : j < x.length) → g115_0 (x.getD i (ByteArray.empty, ByteArray.empty, ByteArray.empty, ())) (x.getD j (ByteArray.empty, ByteArray.empty, ByteArray.empty, ())) = true := by
  unfold g83_0 at h
  simp only [Bool.and_eq_true, decide_eq_true_eq] at h
  refine ⟨h.2, ?_⟩
  have step : ∀ j : Nat, j + 1 < x.length → g115_0 (x.getD j (ByteArray.empty, ByteArray.empty, ByteArray.empty, ())) (x.getD (j + 1) (ByteArray.empty, ByteArray.empty, ByteArray.empty, ())) = true := fun j hj => by
    have := allI_get h.1 (j + 1) hj
    rw [Nat.zero_add] at this
    unfold ok83 at this
    simp only [Bool.and_eq_true, Nat.add_sub_cancel] at this
    rw [getD_lt x (j + 1) _ hj]
    simpa using this.2
  intro i j hij
  induction j with
  | zero => omega
  | succ j ih =>
    intro hj
    rcases Nat.lt_or_ge i j with hlt | hge
    · exact before_trans (ih hlt (by omega)) (step j hj)
    · have : i = j := by omega
      subst this
      exact step i hj

end Go.Proofs.Ytjkeinpcphkfbaa

/- A law that says how functions of the program and of the specification hang together. -/
set_option linter.unusedVariables false
set_option linter.unusedSimpArgs false
set_option maxRecDepth 100000
namespace Go.Proofs.Ytjkeinpcphkfbaa
open Go Go.Am Go.Proofs

theorem bsearch_at (p : Nat → Bool) (k N : Nat) (hk : ∀ i, i < N → p i = decide (i < k)) : ∀ (m i j : Nat), j - i < m → i ≤ k → k ≤ j → j ≤ N → bsearch p m i j = k
  | 0, i, j, h, _, _, _ => by omega
  | m + 1, i, j, h, h1, h2, h3 => by
    simp only [bsearch]
    split
    · rw [hk _ (by omega)]
      split
      · rename_i h4
        simp only [decide_eq_true_eq] at h4
        exact bsearch_at p k N hk m _ _ (by omega) (by omega) h2 h3
      · rename_i h4
        simp only [decide_eq_true_eq] at h4
        exact bsearch_at p k N hk m _ _ (by omega) h1 (by omega) (by omega)
    · omega

theorem cut_at (p : Nat → Bool) : ∀ N : Nat, (∀ i j, i < j → j < N → p j = true → p i = true) → ∃ k, k ≤ N ∧ ∀ i, i < N → p i = decide (i < k)
  | 0, _ => ⟨0, Nat.le_refl _, fun i h => by omega⟩
  | N + 1, hm => by
    obtain ⟨k, h1, h2⟩ := cut_at p N (fun i j hij hj => hm i j hij (by omega))
    cases hp : p N with
    | true =>
      refine ⟨N + 1, Nat.le_refl _, fun i hi => ?_⟩
      rw [decide_eq_true hi]
      rcases Nat.lt_or_ge i N with h | h
      · exact hm i N h (by omega) hp
      · rw [show i = N from by omega]; exact hp
    | false =>
      refine ⟨k, by omega, fun i hi => ?_⟩
      rcases Nat.lt_or_ge i N with h | h
      · exact h2 i h
      · rw [show i = N from by omega, hp, decide_eq_false (by omega)]

/-- Where a block stands, or has to. -/
theorem place (x : List (ByteArray × ByteArray × ByteArray × Unit)) (t : (ByteArray × ByteArray × ByteArray × Unit)) (h : g83_0 x = true) :
    k126c85 x t ≤ x.length ∧
    (∀ i, i < k126c85 x t → g115_0 (x.getD i (ByteArray.empty, ByteArray.empty, ByteArray.empty, ())) t = true) ∧
    (∀ i, k126c85 x t ≤ i → i < x.length → g115_0 (x.getD i (ByteArray.empty, ByteArray.empty, ByteArray.empty, ())) t = false) := by
  obtain ⟨_, hs⟩ := sorted x h
  have hp : ∀ i, p126c85 x t i = g115_0 (x.getD i (ByteArray.empty, ByteArray.empty, ByteArray.empty, ())) t := fun i => cmp_lt _ _
  obtain ⟨k, hk1, hk2⟩ := cut_at (p126c85 x t) x.length (fun i j hij hj h => by
    rw [hp] at h ⊢
    exact before_trans (hs i j hij hj) h)
  have e : k126c85 x t = k := bsearch_at _ k x.length hk2 _ _ _ (by omega) (by omega) hk1 (Nat.le_refl _)
  rw [e]
  refine ⟨hk1, fun i hi => ?_, fun i hi hl => ?_⟩
  · rw [← hp, hk2 i (by omega)]; simpa using hi
  · rw [← hp, hk2 i hl]; simpa using hi

theorem find_eq (x : List (ByteArray × ByteArray × ByteArray × Unit)) (k n : ByteArray) (h : g83_0 x = true) :
    (g94_1 x (k, n, ByteArray.empty, ()) = true → 0 ≤ g94_0 x (k, n, ByteArray.empty, ()) ∧ g94_0 x (k, n, ByteArray.empty, ()) < x.length) ∧
    g93_0 x k n = if g94_1 x (k, n, ByteArray.empty, ()) = true then g94_0 x (k, n, ByteArray.empty, ()) else -1 := by
  obtain ⟨hl, hs⟩ := sorted x h
  obtain ⟨p1, p2, p3⟩ := place x (k, n, ByteArray.empty, ()) h
  unfold g94_1 g94_0 g126c85_1 g126c85_0 f126c85 g93_0
  generalize k126c85 x (k, n, ByteArray.empty, ()) = K at *
  have hq : ∀ b : (ByteArray × ByteArray × ByteArray × Unit), q93 k n b = true ↔ twins b (k, n, ByteArray.empty, ()) := fun b => by
    unfold q93 twins
    rw [Bool.and_eq_true, bytes_eq, bytes_eq]
  have hbefore : ∀ i, i < K → q93 k n (x.getD i (ByteArray.empty, ByteArray.empty, ByteArray.empty, ())) = false := fun i hi => by
    rw [Bool.eq_false_iff]
    intro hh
    have := before_twins ((hq _).1 hh)
    rw [p2 i hi] at this
    cases this
  by_cases hK : K < x.length
  · simp only [if_pos hK]
    by_cases hf : (g85_0 (x.getD K (ByteArray.empty, ByteArray.empty, ByteArray.empty, ())) (k, n, ByteArray.empty, ()) == 0) = true
    · rw [if_pos hf]
      refine ⟨fun _ => ⟨by omega, by omega⟩, ?_⟩
      have : x.findIdx? (q93 k n) = some K := by
        rw [List.findIdx?_eq_some_iff_getElem]
        refine ⟨hK, ?_, fun j hj => ?_⟩
        · rw [← getD_lt x K (ByteArray.empty, ByteArray.empty, ByteArray.empty, ()) hK]; exact (hq _).2 ((cmp_eq _ _).1 hf)
        · have := hbefore j hj
          rw [getD_lt x j _ (by omega)] at this
          simp [this]
      rw [this]
      rfl
    · rw [if_neg hf]
      refine ⟨fun h => absurd h hf, ?_⟩
      have : x.findIdx? (q93 k n) = none := by
        rw [List.findIdx?_eq_none_iff]
        intro b hb
        obtain ⟨i, hi, rfl⟩ := List.mem_iff_getElem.1 hb
        rw [← getD_lt x i (ByteArray.empty, ByteArray.empty, ByteArray.empty, ()) hi]
        rcases Nat.lt_or_ge i K with h1 | h1
        · exact hbefore i h1
        · rw [Bool.eq_false_iff]
          intro hh
          have ht := (hq _).1 hh
          rcases Nat.lt_or_ge K i with h2 | h2
          · have := before_left ht (hs K i h2 hi)
            rw [p3 K (Nat.le_refl _) hK] at this
            cases this
          · have : i = K := by omega
            subst this
            exact hf ((cmp_eq _ _).2 ht)
      rw [this]
      rfl
  · simp only [if_neg hK, Bool.false_eq_true, if_false]
    refine ⟨fun h => h.elim, ?_⟩
    have : x.findIdx? (q93 k n) = none := by
      rw [List.findIdx?_eq_none_iff]
      intro b hb
      obtain ⟨i, hi, rfl⟩ := List.mem_iff_getElem.1 hb
      rw [← getD_lt x i (ByteArray.empty, ByteArray.empty, ByteArray.empty, ()) hi]
      exact hbefore i (by omega)
    rw [this]
    rfl

end Go.Proofs.Ytjkeinpcphkfbaa
