/- Several texts in one: the functions that this law reaches, and their laws. -/
import Derived.Test.YtjkeinpcphkfbaaZ8A
import Derived.Test.YtjkeinpcphkfbaaZ8B
import Derived.Shelf.Strings.Builder1
import Derived.Shelf.Strings.Builder2
import Derived.Shelf.Small.Bits
import Derived.Shelf.Strings.BuilderF
import Derived.Shelf.Strings.BuilderK
import Derived.Shelf.Strings.Builder2Cap
import Derived.Shelf.Strconv.Itoa0
import Derived.Shelf.Strings.Search1
import Derived.Shelf.Strings.Search2
import Derived.Shelf.Strings.Search3
import Derived.Shelf.LaysM
import Derived.Shelf.Strings.Shaped
import Derived.Shelf.Strings.Prefix
import Derived.Shelf.Bits.Mul64
import Derived.Shelf.Strings.Repeat
import Derived.Shelf.Strings.BuilderCap
import Derived.Ground.Names2Prog
import Derived.Shelf.Slices.Clone
import Derived.Ground.SlgnProg
import Derived.Shelf.SlicesE.Clone
import Derived.Lib.IndexAny
import Derived.Lib.IndexMore

/- Function 93 (spec.l29Find): its runs between cut points. Written by a program of this repo (gen). -/
set_option linter.unusedVariables false
set_option linter.unusedSimpArgs false
set_option maxRecDepth 100000
namespace Go.Proofs.Ytjkeinpcphkfbaa
open Go Go.Am Go.Proofs
def ext93 : Ext := []
theorem ext93Ok : ExtOk Try.prog ext93 := trivial
/-! Function 93. -/
noncomputable def b93 : Code := bodyOf Try.f93
theorem hb93 : Try.f93.body = some b93 := by kernel_rfl
def sig93 : List AT := [AT.v (Ty.sl (Ty.cons Ty.str (Ty.cons Ty.str (Ty.cons Ty.str Ty.unit)))), AT.v (Ty.str), AT.v (Ty.str)]
def tys93 : List Ty := [Ty.int IntKind.i64]
def E93_2 (v7 : Int) (x0 : List (ByteArray × ByteArray × ByteArray × Unit)) (x1 : ByteArray) (x2 : ByteArray) : Env := [(0, PV.a (Atom.sl (Ty.cons Ty.str (Ty.cons Ty.str (Ty.cons Ty.str Ty.unit))) x0)), (1, PV.a (Atom.val (Value.string x1))), (2, PV.a (Atom.val (Value.string x2))), (7, PV.a (Atom.val (Value.int IntKind.i64 v7)))]
def L93_2 (v7 : Int) (x0 : List (ByteArray × ByteArray × ByteArray × Unit)) (x1 : ByteArray) (x2 : ByteArray) : Heap := []
mutual
def R93 : Nat → List (ByteArray × ByteArray × ByteArray × Unit) → ByteArray → ByteArray → List Dyn → Prop
  | 0, _, _, _, _ => False
  | n + 1, x0, x1, x2, ds => (R93_2 n (0) (x0) (x1) (x2) ds)
def R93_2 : Nat → Int → List (ByteArray × ByteArray × ByteArray × Unit) → ByteArray → ByteArray → List Dyn → Prop
  | 0, _, _, _, _, _ => False
  | n + 1, v7, x0, x1, x2, ds => (if (Decidable.decide (v7 < (↑(List.length x0) : Int))) = true then ((0 ≤ v7) ∧ (v7 < (↑(List.length x0) : Int)) ∧ (if (ByteArray.toList (Prod.fst (List.getD x0 (Int.toNat v7) (ByteArray.empty, ByteArray.empty, ByteArray.empty, ()))) == ByteArray.toList x1) = true then ((0 ≤ v7) ∧ (v7 < (↑(List.length x0) : Int)) ∧ (if (ByteArray.toList (Prod.fst (Prod.snd (List.getD x0 (Int.toNat v7) (ByteArray.empty, ByteArray.empty, ByteArray.empty, ())))) == ByteArray.toList x2) = true then (ds = [Dyn.mk (Ty.int IntKind.i64) v7]) else ((InR IntKind.i64 (v7 + 1)) ∧ (R93_2 n (v7 + 1) (x0) (x1) (x2) ds)))) else ((InR IntKind.i64 (v7 + 1)) ∧ (R93_2 n (v7 + 1) (x0) (x1) (x2) ds)))) else (ds = [Dyn.mk (Ty.int IntKind.i64) (-1)]))
end
theorem p93_0 (x0 : List (ByteArray × ByteArray × ByteArray × Unit)) (x1 : ByteArray) (x2 : ByteArray) : Am.runN tab ext93 false 31 [] 2000 [] [] [0, 1, 2, 7] [] [] [.code b93] (entE 0 0 sig93 (x0, x1, x2, ())) (entL sig93 (x0, x1, x2, ())) = some (cutAt b93 2, E93_2 (0) (x0) (x1) (x2), L93_2 (0) (x0) (x1) (x2), []) := by kernel_rfl
theorem p93_1 (v7 : Int) (x0 : List (ByteArray × ByteArray × ByteArray × Unit)) (x1 : ByteArray) (x2 : ByteArray) : runF tab ext93 false 31 [] 2000 [] tys93 Try.f93.results [true, true, true] (cutAt b93 2) (E93_2 v7 x0 x1 x2) (L93_2 v7 x0 x1 x2) = some ([Dyn.mk (Ty.int IntKind.i64) v7], [], [Decidable.decide (v7 < (↑(List.length x0) : Int)) = Bool.true, 0 ≤ v7, v7 < (↑(List.length x0) : Int), (ByteArray.toList (Prod.fst (List.getD x0 (Int.toNat v7) (ByteArray.empty, ByteArray.empty, ByteArray.empty, ()))) == ByteArray.toList x1) = Bool.true, 0 ≤ v7, v7 < (↑(List.length x0) : Int), (ByteArray.toList (Prod.fst (Prod.snd (List.getD x0 (Int.toNat v7) (ByteArray.empty, ByteArray.empty, ByteArray.empty, ())))) == ByteArray.toList x2) = Bool.true]) := by kernel_rfl
theorem p93_2 (v7 : Int) (x0 : List (ByteArray × ByteArray × ByteArray × Unit)) (x1 : ByteArray) (x2 : ByteArray) : Am.runN tab ext93 false 31 [] 2000 [] [] [0, 1, 2, 7] [] [true, true, false] (cutAt b93 2) (E93_2 v7 x0 x1 x2) (L93_2 v7 x0 x1 x2) = some (cutAt b93 2, E93_2 (v7 + 1) (x0) (x1) (x2), L93_2 (v7 + 1) (x0) (x1) (x2), [Decidable.decide (v7 < (↑(List.length x0) : Int)) = Bool.true, 0 ≤ v7, v7 < (↑(List.length x0) : Int), (ByteArray.toList (Prod.fst (List.getD x0 (Int.toNat v7) (ByteArray.empty, ByteArray.empty, ByteArray.empty, ()))) == ByteArray.toList x1) = Bool.true, 0 ≤ v7, v7 < (↑(List.length x0) : Int), (ByteArray.toList (Prod.fst (Prod.snd (List.getD x0 (Int.toNat v7) (ByteArray.empty, ByteArray.empty, ByteArray.empty, ())))) == ByteArray.toList x2) = Bool.false, InR IntKind.i64 (v7 + 1)]) := by kernel_rfl
theorem p93_3 (v7 : Int) (x0 : List (ByteArray × ByteArray × ByteArray × Unit)) (x1 : ByteArray) (x2 : ByteArray) : Am.runN tab ext93 false 31 [] 2000 [] [] [0, 1, 2, 7] [] [true, false, false] (cutAt b93 2) (E93_2 v7 x0 x1 x2) (L93_2 v7 x0 x1 x2) = some (cutAt b93 2, E93_2 (v7 + 1) (x0) (x1) (x2), L93_2 (v7 + 1) (x0) (x1) (x2), [Decidable.decide (v7 < (↑(List.length x0) : Int)) = Bool.true, 0 ≤ v7, v7 < (↑(List.length x0) : Int), (ByteArray.toList (Prod.fst (List.getD x0 (Int.toNat v7) (ByteArray.empty, ByteArray.empty, ByteArray.empty, ()))) == ByteArray.toList x1) = Bool.false, Bool.false = Bool.false, InR IntKind.i64 (v7 + 1)]) := by kernel_rfl
theorem p93_4 (v7 : Int) (x0 : List (ByteArray × ByteArray × ByteArray × Unit)) (x1 : ByteArray) (x2 : ByteArray) : runF tab ext93 false 31 [] 2000 [] tys93 Try.f93.results [false] (cutAt b93 2) (E93_2 v7 x0 x1 x2) (L93_2 v7 x0 x1 x2) = some ([Dyn.mk (Ty.int IntKind.i64) (-1)], [], [Decidable.decide (v7 < (↑(List.length x0) : Int)) = Bool.false]) := by kernel_rfl
theorem snd93 : ∀ n, (∀ (x0 : List (ByteArray × ByteArray × ByteArray × Unit)) (x1 : ByteArray) (x2 : ByteArray) ds, R93 n x0 x1 x2 ds → ∀ w0 O q, AtV Try.prog 93 (PostR ds [] [] q w0 O) 31 w0 O q [] [.code b93] (entE 0 0 sig93 (x0, x1, x2, ())) (entL sig93 (x0, x1, x2, ()))) ∧ (∀ (v7 : Int) (x0 : List (ByteArray × ByteArray × ByteArray × Unit)) (x1 : ByteArray) (x2 : ByteArray) ds, R93_2 n v7 x0 x1 x2 ds → ∀ w0 O q, AtV Try.prog 93 (PostR ds [] [] q w0 O) 31 w0 O q [] (cutAt b93 2) (E93_2 v7 x0 x1 x2) (L93_2 v7 x0 x1 x2)) := by
  intro n
  induction n with
  | zero => exact ⟨fun _ _ _ _ h => by simp only [R93] at h, fun _ _ _ _ _ h => by simp only [R93_2] at h⟩
  | succ n ih =>
  obtain ⟨ih, ih2⟩ := ih
  refine ⟨?_, ?_⟩
  · intro x0 x1 x2 ds h w0 O q
    rw [R93] at h
    exact AtV.runN tabOk ext93Ok mixed (p93_0 x0 x1 x2) trivial (ih2 _ _ _ _ _ h w0 O q)

  · intro v7 x0 x1 x2 ds h w0 O q
    rw [R93_2] at h
    by_cases b0 : (Decidable.decide (v7 < (↑(List.length x0) : Int))) = true
    · rw [if_pos b0] at h
      obtain ⟨s0, s1, h⟩ := h
      by_cases b1 : (ByteArray.toList (Prod.fst (List.getD x0 (Int.toNat v7) (ByteArray.empty, ByteArray.empty, ByteArray.empty, ()))) == ByteArray.toList x1) = true
      · rw [if_pos b1] at h
        obtain ⟨s2, s3, h⟩ := h
        by_cases b2 : (ByteArray.toList (Prod.fst (Prod.snd (List.getD x0 (Int.toNat v7) (ByteArray.empty, ByteArray.empty, ByteArray.empty, ())))) == ByteArray.toList x2) = true
        · rw [if_pos b2] at h
          subst h
          exact AtV.fin Try.func93 tabOk ext93Ok mixed (p93_1 v7 x0 x1 x2) ⟨b0, s0, s1, b1, s2, s3, b2, trivial⟩
        · rw [if_neg b2] at h
          replace b2 := Bool.eq_false_iff.2 b2
          obtain ⟨s4, h⟩ := h
          exact AtV.runN tabOk ext93Ok mixed (p93_2 v7 x0 x1 x2) ⟨b0, s0, s1, b1, s2, s3, b2, s4, trivial⟩ (ih2 _ _ _ _ _ h w0 O q)
      · rw [if_neg b1] at h
        replace b1 := Bool.eq_false_iff.2 b1
        obtain ⟨s2, h⟩ := h
        exact AtV.runN tabOk ext93Ok mixed (p93_3 v7 x0 x1 x2) ⟨b0, s0, s1, b1, rfl, s2, trivial⟩ (ih2 _ _ _ _ _ h w0 O q)
    · rw [if_neg b0] at h
      replace b0 := Bool.eq_false_iff.2 b0
      subst h
      exact AtV.fin Try.func93 tabOk ext93Ok mixed (p93_4 v7 x0 x1 x2) ⟨b0, trivial⟩



def q93 (x1 x2 : ByteArray) (b : (ByteArray × ByteArray × ByteArray × Unit)) : Bool := (ByteArray.toList b.1 == ByteArray.toList x1) && (ByteArray.toList b.2.1 == ByteArray.toList x2)
def g93_0 (x0 : List (ByteArray × ByteArray × ByteArray × Unit)) (x1 x2 : ByteArray) : Int := idx (x0.findIdx? (q93 x1 x2))
def P93 (x0 : List (ByteArray × ByteArray × ByteArray × Unit)) (x1 x2 : ByteArray) : Prop := True

theorem top93 (x0 : List (ByteArray × ByteArray × ByteArray × Unit)) (x1 x2 : ByteArray) (hm : x0.length ≤ maxLen) : R93 (x0.length + 1 + 1) x0 x1 x2 [⟨.int .i64, g93_0 x0 x1 x2⟩] := by
  rw [R93]
  have key := loop_find x0 (ByteArray.empty, ByteArray.empty, ByteArray.empty, ()) (q93 x1 x2) [(⟨.int .i64, -1⟩ : Dyn)] (fun k => [⟨.int .i64, k⟩]) (fun n i ds => R93_2 n i x0 x1 x2 ds) (fun n => ?_) (fun n i hi hok ds hr => ?_) (fun n i hi hok => ?_)
  · unfold g93_0
    cases h : x0.findIdx? (q93 x1 x2) <;> rw [h] at key <;> exact key
  · rw [R93_2, if_neg (by simp)]
  · rw [R93_2, if_pos (by simp; omega)]
    simp only [Int.toNat_natCast]
    unfold q93 at hok
    refine ⟨by omega, by omega, ?_⟩
    by_cases h1 : (ByteArray.toList (x0.getD i (ByteArray.empty, ByteArray.empty, ByteArray.empty, ())).1 == ByteArray.toList x1) = true
    · rw [h1, Bool.true_and] at hok
      rw [if_pos h1]
      refine ⟨by omega, by omega, ?_⟩
      rw [if_neg (by rw [hok]; simp)]
      exact ⟨inR_up hm hi, hr⟩
    · rw [if_neg h1]
      exact ⟨inR_up hm hi, hr⟩
  · rw [R93_2, if_pos (by simp; omega)]
    simp only [Int.toNat_natCast]
    unfold q93 at hok
    simp only [Bool.and_eq_true] at hok
    refine ⟨by omega, by omega, ?_⟩
    rw [if_pos hok.1]
    refine ⟨by omega, by omega, ?_⟩
    rw [if_pos hok.2] <;> trivial

def S93 : Am.Spec := { sig := sig93, pre := fun ⟨x0, x1, x2, _⟩ => P93 x0 x1 x2, res := fun ⟨x0, x1, x2, _⟩ => [⟨Ty.int .i64, g93_0 x0 x1 x2⟩] }
theorem con93 : Contract Try.prog 93 S93 := contract_of Try.func93 hb93 (Nat.le_of_ble_eq_true (by kernel_rfl)) (fun ⟨x0, x1, x2, _⟩ h hwf w0 O q =>
  (snd93 _).1 x0 x1 x2 _ (top93 x0 x1 x2 hwf.1.1) w0 O q)

end Go.Proofs.Ytjkeinpcphkfbaa

/- Function 43 (spec.BlockNamed): its runs between cut points. Written by a program of this repo (gen). -/
set_option linter.unusedVariables false
set_option linter.unusedSimpArgs false
set_option maxRecDepth 100000
namespace Go.Proofs.Ytjkeinpcphkfbaa
open Go Go.Am Go.Proofs
def ext43 : Ext := [(83, S83), (93, S93)]
theorem call43_83 : Callable Try.prog 83 := ⟨Try.f83, Try.func83, by kernel_rfl, by kernel_rfl⟩
theorem call43_93 : Callable Try.prog 93 := ⟨Try.f93, Try.func93, by kernel_rfl, by kernel_rfl⟩
theorem ext43Ok : ExtOk Try.prog ext43 := ⟨⟨call43_83, con83⟩, ⟨call43_93, con93⟩, trivial⟩
/-! Function 43. -/
noncomputable def b43 : Code := bodyOf Try.f43
theorem hb43 : Try.f43.body = some b43 := by kernel_rfl
def sig43 : List AT := [AT.v (Ty.sl (Ty.cons Ty.str (Ty.cons Ty.str (Ty.cons Ty.str Ty.unit)))), AT.v (Ty.str), AT.v (Ty.str)]
def tys43 : List Ty := [Ty.str, Ty.int IntKind.i64]
def P43 (x0 : List (ByteArray × ByteArray × ByteArray × Unit)) (x1 : ByteArray) (x2 : ByteArray) : Prop := (if (!g83_0 x0) = true then True else (if (Decidable.decide (g93_0 x0 x1 x2 < 0)) = true then True else ((0 ≤ g93_0 x0 x1 x2) ∧ (g93_0 x0 x1 x2 < (↑(List.length x0) : Int)) ∧ True)))
def g43_0 (x0 : List (ByteArray × ByteArray × ByteArray × Unit)) (x1 : ByteArray) (x2 : ByteArray) : ByteArray := (if (!g83_0 x0) = true then ByteArray.mk #[] else (if (Decidable.decide (g93_0 x0 x1 x2 < 0)) = true then ByteArray.mk #[] else Prod.fst (Prod.snd (Prod.snd (List.getD x0 (Int.toNat (g93_0 x0 x1 x2)) (ByteArray.empty, ByteArray.empty, ByteArray.empty, ()))))))
def g43_1 (x0 : List (ByteArray × ByteArray × ByteArray × Unit)) (x1 : ByteArray) (x2 : ByteArray) : Int := (if (!g83_0 x0) = true then 1 else (if (Decidable.decide (g93_0 x0 x1 x2 < 0)) = true then 3 else 0))
theorem p43_0 (x0 : List (ByteArray × ByteArray × ByteArray × Unit)) (x1 : ByteArray) (x2 : ByteArray) : runF tab ext43 false 23 [] 2000 [] tys43 Try.f43.results [true] [.code b43] (entE 0 0 sig43 (x0, x1, x2, ())) (entL sig43 (x0, x1, x2, ())) = some ([Dyn.mk Ty.str (ByteArray.mk #[]), Dyn.mk (Ty.int IntKind.i64) 1], [], [True, (!g83_0 x0) = Bool.true]) := by kernel_rfl
theorem p43_1 (x0 : List (ByteArray × ByteArray × ByteArray × Unit)) (x1 : ByteArray) (x2 : ByteArray) : runF tab ext43 false 23 [] 2000 [] tys43 Try.f43.results [false, true] [.code b43] (entE 0 0 sig43 (x0, x1, x2, ())) (entL sig43 (x0, x1, x2, ())) = some ([Dyn.mk Ty.str (ByteArray.mk #[]), Dyn.mk (Ty.int IntKind.i64) 3], [], [True, (!g83_0 x0) = Bool.false, True, Decidable.decide (g93_0 x0 x1 x2 < 0) = Bool.true]) := by kernel_rfl
theorem p43_2 (x0 : List (ByteArray × ByteArray × ByteArray × Unit)) (x1 : ByteArray) (x2 : ByteArray) : runF tab ext43 false 23 [] 2000 [] tys43 Try.f43.results [false, false] [.code b43] (entE 0 0 sig43 (x0, x1, x2, ())) (entL sig43 (x0, x1, x2, ())) = some ([Dyn.mk Ty.str (Prod.fst (Prod.snd (Prod.snd (List.getD x0 (Int.toNat (g93_0 x0 x1 x2)) (ByteArray.empty, ByteArray.empty, ByteArray.empty, ()))))), Dyn.mk (Ty.int IntKind.i64) 0], [], [True, (!g83_0 x0) = Bool.false, True, Decidable.decide (g93_0 x0 x1 x2 < 0) = Bool.false, 0 ≤ g93_0 x0 x1 x2, g93_0 x0 x1 x2 < (↑(List.length x0) : Int)]) := by kernel_rfl
theorem at43 (x0 : List (ByteArray × ByteArray × ByteArray × Unit)) (x1 : ByteArray) (x2 : ByteArray) (h : P43 x0 x1 x2) (w0 : World) (O : List Nat) (q : Nat → Value) : AtV Try.prog 43 (PostR [⟨Ty.str, g43_0 x0 x1 x2⟩, ⟨Ty.int IntKind.i64, g43_1 x0 x1 x2⟩] [] [] q w0 O) 23 w0 O q [] [.code b43] (entE 0 0 sig43 (x0, x1, x2, ())) (entL sig43 (x0, x1, x2, ())) := by
  unfold P43 at h
  unfold g43_0 g43_1
  by_cases b0 : (!g83_0 x0) = true
  · try simp only [if_pos b0] at h ⊢
    exact AtV.fin Try.func43 tabOk ext43Ok mixed (p43_0 x0 x1 x2) ⟨trivial, b0, trivial⟩
  · try simp only [if_neg b0] at h ⊢
    replace b0 := Bool.eq_false_iff.2 b0
    by_cases b1 : (Decidable.decide (g93_0 x0 x1 x2 < 0)) = true
    · try simp only [if_pos b1] at h ⊢
      exact AtV.fin Try.func43 tabOk ext43Ok mixed (p43_1 x0 x1 x2) ⟨trivial, b0, trivial, b1, trivial⟩
    · try simp only [if_neg b1] at h ⊢
      replace b1 := Bool.eq_false_iff.2 b1
      obtain ⟨s0, s1, h⟩ := h
      exact AtV.fin Try.func43 tabOk ext43Ok mixed (p43_2 x0 x1 x2) ⟨trivial, b0, trivial, b1, s0, s1, trivial⟩

def S43 : Am.Spec := { sig := sig43, pre := fun ⟨x0, x1, x2, _⟩ => P43 x0 x1 x2, res := fun ⟨x0, x1, x2, _⟩ => [⟨Ty.str, g43_0 x0 x1 x2⟩, ⟨Ty.int IntKind.i64, g43_1 x0 x1 x2⟩] }
theorem con43 : Contract Try.prog 43 S43 := contract_of Try.func43 hb43 (Nat.le_of_ble_eq_true (by kernel_rfl)) (fun ⟨x0, x1, x2, _⟩ h _ w0 O q => at43 x0 x1 x2 h w0 O q)


end Go.Proofs.Ytjkeinpcphkfbaa

/- Function 116 (impl.IsName): its runs between cut points. Written by a program of this repo (gen). -/
set_option linter.unusedVariables false
set_option linter.unusedSimpArgs false
set_option maxRecDepth 100000
namespace Go.Proofs.Ytjkeinpcphkfbaa
open Go Go.Am Go.Proofs
def ext116 : Ext := []
theorem ext116Ok : ExtOk Try.prog ext116 := trivial
/-! Function 116. -/
noncomputable def b116 : Code := bodyOf Try.f116
theorem hb116 : Try.f116.body = some b116 := by kernel_rfl
def sig116 : List AT := [AT.v (Ty.str)]
def tys116 : List Ty := [Ty.bool]
def E116_4 (v18 : Int) (x0 : ByteArray) : Env := [(16, PV.a (Atom.osl 0 Option.none)), (17, PV.a (Atom.val (Value.int IntKind.i64 (↑(List.length (bytesOf x0)) : Int)))), (18, PV.a (Atom.val (Value.int IntKind.i64 v18)))]
def L116_4 (v18 : Int) (x0 : ByteArray) : Heap := [Option.some (Arr.mk (Ty.int IntKind.u8) (bytesOf x0) Bool.false)]
mutual
def R116 : Nat → ByteArray → List Dyn → Prop
  | 0, _, _ => False
  | n + 1, x0, ds => (if (Decidable.decide ((↑(ByteArray.size x0) : Int) < 1)) = true then (ds = [Dyn.mk Ty.bool Bool.false]) else (if (Decidable.decide ((↑(ByteArray.size x0) : Int) > 10)) = true then (ds = [Dyn.mk Ty.bool Bool.false]) else (R116_4 n (0) (x0) ds)))
def R116_4 : Nat → Int → ByteArray → List Dyn → Prop
  | 0, _, _, _ => False
  | n + 1, v18, x0, ds => (if (Decidable.decide (v18 < (↑(List.length (bytesOf x0)) : Int))) = true then ((0 ≤ v18) ∧ (v18 < (↑(List.length (bytesOf x0)) : Int)) ∧ (if (Decidable.decide (List.getD (bytesOf x0) (Int.toNat v18) 0 ≥ 97)) = true then (if (Decidable.decide (List.getD (bytesOf x0) (Int.toNat v18) 0 ≥ 48)) = true then (if (!Decidable.decide (List.getD (bytesOf x0) (Int.toNat v18) 0 ≤ 122)) = true then (if (v18 == 0) = true then (ds = [Dyn.mk Ty.bool Bool.false]) else (if (!Decidable.decide (List.getD (bytesOf x0) (Int.toNat v18) 0 ≤ 57)) = true then (ds = [Dyn.mk Ty.bool Bool.false]) else ((InR IntKind.i64 (v18 + 1)) ∧ (R116_4 n (v18 + 1) (x0) ds)))) else ((InR IntKind.i64 (v18 + 1)) ∧ (R116_4 n (v18 + 1) (x0) ds))) else (if (!Decidable.decide (List.getD (bytesOf x0) (Int.toNat v18) 0 ≤ 122)) = true then (if (v18 == 0) = true then (ds = [Dyn.mk Ty.bool Bool.false]) else (ds = [Dyn.mk Ty.bool Bool.false])) else ((InR IntKind.i64 (v18 + 1)) ∧ (R116_4 n (v18 + 1) (x0) ds)))) else (if (Decidable.decide (List.getD (bytesOf x0) (Int.toNat v18) 0 ≥ 48)) = true then (if (v18 == 0) = true then (ds = [Dyn.mk Ty.bool Bool.false]) else (if (!Decidable.decide (List.getD (bytesOf x0) (Int.toNat v18) 0 ≤ 57)) = true then (ds = [Dyn.mk Ty.bool Bool.false]) else ((InR IntKind.i64 (v18 + 1)) ∧ (R116_4 n (v18 + 1) (x0) ds)))) else (if (v18 == 0) = true then (ds = [Dyn.mk Ty.bool Bool.false]) else (ds = [Dyn.mk Ty.bool Bool.false]))))) else (ds = [Dyn.mk Ty.bool Bool.true]))
end
theorem p116_0 (x0 : ByteArray) : runF tab ext116 false 46 [] 2000 [] tys116 Try.f116.results [true, true] [.code b116] (entE 0 0 sig116 (x0, ())) (entL sig116 (x0, ())) = some ([Dyn.mk Ty.bool Bool.false], [], [Decidable.decide ((↑(ByteArray.size x0) : Int) < 1) = Bool.true, Bool.true = Bool.true]) := by kernel_rfl
theorem p116_1 (x0 : ByteArray) : runF tab ext116 false 46 [] 2000 [] tys116 Try.f116.results [false, true] [.code b116] (entE 0 0 sig116 (x0, ())) (entL sig116 (x0, ())) = some ([Dyn.mk Ty.bool Bool.false], [], [Decidable.decide ((↑(ByteArray.size x0) : Int) < 1) = Bool.false, Decidable.decide ((↑(ByteArray.size x0) : Int) > 10) = Bool.true]) := by kernel_rfl
theorem p116_2 (x0 : ByteArray) : Am.runN tab ext116 false 46 [] 2000 [] [] [16, 17, 18] [true] [false, false] [.code b116] (entE 0 0 sig116 (x0, ())) (entL sig116 (x0, ())) = some (cutAt b116 4, E116_4 (0) (x0), L116_4 (0) (x0), [Decidable.decide ((↑(ByteArray.size x0) : Int) < 1) = Bool.false, Decidable.decide ((↑(ByteArray.size x0) : Int) > 10) = Bool.false]) := by kernel_rfl
theorem p116_3 (v18 : Int) (x0 : ByteArray) : runF tab ext116 false 46 [] 2000 [] tys116 Try.f116.results [true, true, true, true, true, true] (cutAt b116 4) (E116_4 v18 x0) (L116_4 v18 x0) = some ([Dyn.mk Ty.bool Bool.false], [], [Decidable.decide (v18 < (↑(List.length (bytesOf x0)) : Int)) = Bool.true, 0 ≤ v18, v18 < (↑(List.length (bytesOf x0)) : Int), Decidable.decide (List.getD (bytesOf x0) (Int.toNat v18) 0 ≥ 97) = Bool.true, Decidable.decide (List.getD (bytesOf x0) (Int.toNat v18) 0 ≥ 48) = Bool.true, (!Decidable.decide (List.getD (bytesOf x0) (Int.toNat v18) 0 ≤ 122)) = Bool.true, (v18 == 0) = Bool.true, Bool.true = Bool.true]) := by kernel_rfl
theorem p116_4 (v18 : Int) (x0 : ByteArray) : runF tab ext116 false 46 [] 2000 [] tys116 Try.f116.results [true, true, true, true, false, true] (cutAt b116 4) (E116_4 v18 x0) (L116_4 v18 x0) = some ([Dyn.mk Ty.bool Bool.false], [], [Decidable.decide (v18 < (↑(List.length (bytesOf x0)) : Int)) = Bool.true, 0 ≤ v18, v18 < (↑(List.length (bytesOf x0)) : Int), Decidable.decide (List.getD (bytesOf x0) (Int.toNat v18) 0 ≥ 97) = Bool.true, Decidable.decide (List.getD (bytesOf x0) (Int.toNat v18) 0 ≥ 48) = Bool.true, (!Decidable.decide (List.getD (bytesOf x0) (Int.toNat v18) 0 ≤ 122)) = Bool.true, (v18 == 0) = Bool.false, (!Decidable.decide (List.getD (bytesOf x0) (Int.toNat v18) 0 ≤ 57)) = Bool.true]) := by kernel_rfl
theorem p116_5 (v18 : Int) (x0 : ByteArray) : Am.runN tab ext116 false 46 [] 2000 [] [] [16, 17, 18] [true] [true, true, true, true, false, false] (cutAt b116 4) (E116_4 v18 x0) (L116_4 v18 x0) = some (cutAt b116 4, E116_4 (v18 + 1) (x0), L116_4 (v18 + 1) (x0), [Decidable.decide (v18 < (↑(List.length (bytesOf x0)) : Int)) = Bool.true, 0 ≤ v18, v18 < (↑(List.length (bytesOf x0)) : Int), Decidable.decide (List.getD (bytesOf x0) (Int.toNat v18) 0 ≥ 97) = Bool.true, Decidable.decide (List.getD (bytesOf x0) (Int.toNat v18) 0 ≥ 48) = Bool.true, (!Decidable.decide (List.getD (bytesOf x0) (Int.toNat v18) 0 ≤ 122)) = Bool.true, (v18 == 0) = Bool.false, (!Decidable.decide (List.getD (bytesOf x0) (Int.toNat v18) 0 ≤ 57)) = Bool.false, InR IntKind.i64 (v18 + 1)]) := by kernel_rfl
theorem p116_6 (v18 : Int) (x0 : ByteArray) : Am.runN tab ext116 false 46 [] 2000 [] [] [16, 17, 18] [true] [true, true, true, false, false] (cutAt b116 4) (E116_4 v18 x0) (L116_4 v18 x0) = some (cutAt b116 4, E116_4 (v18 + 1) (x0), L116_4 (v18 + 1) (x0), [Decidable.decide (v18 < (↑(List.length (bytesOf x0)) : Int)) = Bool.true, 0 ≤ v18, v18 < (↑(List.length (bytesOf x0)) : Int), Decidable.decide (List.getD (bytesOf x0) (Int.toNat v18) 0 ≥ 97) = Bool.true, Decidable.decide (List.getD (bytesOf x0) (Int.toNat v18) 0 ≥ 48) = Bool.true, (!Decidable.decide (List.getD (bytesOf x0) (Int.toNat v18) 0 ≤ 122)) = Bool.false, Bool.false = Bool.false, InR IntKind.i64 (v18 + 1)]) := by kernel_rfl
theorem p116_7 (v18 : Int) (x0 : ByteArray) : runF tab ext116 false 46 [] 2000 [] tys116 Try.f116.results [true, true, false, true, true, true] (cutAt b116 4) (E116_4 v18 x0) (L116_4 v18 x0) = some ([Dyn.mk Ty.bool Bool.false], [], [Decidable.decide (v18 < (↑(List.length (bytesOf x0)) : Int)) = Bool.true, 0 ≤ v18, v18 < (↑(List.length (bytesOf x0)) : Int), Decidable.decide (List.getD (bytesOf x0) (Int.toNat v18) 0 ≥ 97) = Bool.true, Decidable.decide (List.getD (bytesOf x0) (Int.toNat v18) 0 ≥ 48) = Bool.false, (!Decidable.decide (List.getD (bytesOf x0) (Int.toNat v18) 0 ≤ 122)) = Bool.true, (v18 == 0) = Bool.true, Bool.true = Bool.true]) := by kernel_rfl
theorem p116_8 (v18 : Int) (x0 : ByteArray) : runF tab ext116 false 46 [] 2000 [] tys116 Try.f116.results [true, true, false, true, false, true] (cutAt b116 4) (E116_4 v18 x0) (L116_4 v18 x0) = some ([Dyn.mk Ty.bool Bool.false], [], [Decidable.decide (v18 < (↑(List.length (bytesOf x0)) : Int)) = Bool.true, 0 ≤ v18, v18 < (↑(List.length (bytesOf x0)) : Int), Decidable.decide (List.getD (bytesOf x0) (Int.toNat v18) 0 ≥ 97) = Bool.true, Decidable.decide (List.getD (bytesOf x0) (Int.toNat v18) 0 ≥ 48) = Bool.false, (!Decidable.decide (List.getD (bytesOf x0) (Int.toNat v18) 0 ≤ 122)) = Bool.true, (v18 == 0) = Bool.false, Bool.true = Bool.true]) := by kernel_rfl
theorem p116_9 (v18 : Int) (x0 : ByteArray) : Am.runN tab ext116 false 46 [] 2000 [] [] [16, 17, 18] [true] [true, true, false, false, false] (cutAt b116 4) (E116_4 v18 x0) (L116_4 v18 x0) = some (cutAt b116 4, E116_4 (v18 + 1) (x0), L116_4 (v18 + 1) (x0), [Decidable.decide (v18 < (↑(List.length (bytesOf x0)) : Int)) = Bool.true, 0 ≤ v18, v18 < (↑(List.length (bytesOf x0)) : Int), Decidable.decide (List.getD (bytesOf x0) (Int.toNat v18) 0 ≥ 97) = Bool.true, Decidable.decide (List.getD (bytesOf x0) (Int.toNat v18) 0 ≥ 48) = Bool.false, (!Decidable.decide (List.getD (bytesOf x0) (Int.toNat v18) 0 ≤ 122)) = Bool.false, Bool.false = Bool.false, InR IntKind.i64 (v18 + 1)]) := by kernel_rfl
theorem p116_10 (v18 : Int) (x0 : ByteArray) : runF tab ext116 false 46 [] 2000 [] tys116 Try.f116.results [true, false, true, true, true, true] (cutAt b116 4) (E116_4 v18 x0) (L116_4 v18 x0) = some ([Dyn.mk Ty.bool Bool.false], [], [Decidable.decide (v18 < (↑(List.length (bytesOf x0)) : Int)) = Bool.true, 0 ≤ v18, v18 < (↑(List.length (bytesOf x0)) : Int), Decidable.decide (List.getD (bytesOf x0) (Int.toNat v18) 0 ≥ 97) = Bool.false, Decidable.decide (List.getD (bytesOf x0) (Int.toNat v18) 0 ≥ 48) = Bool.true, Bool.true = Bool.true, (v18 == 0) = Bool.true, Bool.true = Bool.true]) := by kernel_rfl
theorem p116_11 (v18 : Int) (x0 : ByteArray) : runF tab ext116 false 46 [] 2000 [] tys116 Try.f116.results [true, false, true, true, false, true] (cutAt b116 4) (E116_4 v18 x0) (L116_4 v18 x0) = some ([Dyn.mk Ty.bool Bool.false], [], [Decidable.decide (v18 < (↑(List.length (bytesOf x0)) : Int)) = Bool.true, 0 ≤ v18, v18 < (↑(List.length (bytesOf x0)) : Int), Decidable.decide (List.getD (bytesOf x0) (Int.toNat v18) 0 ≥ 97) = Bool.false, Decidable.decide (List.getD (bytesOf x0) (Int.toNat v18) 0 ≥ 48) = Bool.true, Bool.true = Bool.true, (v18 == 0) = Bool.false, (!Decidable.decide (List.getD (bytesOf x0) (Int.toNat v18) 0 ≤ 57)) = Bool.true]) := by kernel_rfl
theorem p116_12 (v18 : Int) (x0 : ByteArray) : Am.runN tab ext116 false 46 [] 2000 [] [] [16, 17, 18] [true] [true, false, true, true, false, false] (cutAt b116 4) (E116_4 v18 x0) (L116_4 v18 x0) = some (cutAt b116 4, E116_4 (v18 + 1) (x0), L116_4 (v18 + 1) (x0), [Decidable.decide (v18 < (↑(List.length (bytesOf x0)) : Int)) = Bool.true, 0 ≤ v18, v18 < (↑(List.length (bytesOf x0)) : Int), Decidable.decide (List.getD (bytesOf x0) (Int.toNat v18) 0 ≥ 97) = Bool.false, Decidable.decide (List.getD (bytesOf x0) (Int.toNat v18) 0 ≥ 48) = Bool.true, Bool.true = Bool.true, (v18 == 0) = Bool.false, (!Decidable.decide (List.getD (bytesOf x0) (Int.toNat v18) 0 ≤ 57)) = Bool.false, InR IntKind.i64 (v18 + 1)]) := by kernel_rfl
theorem p116_13 (v18 : Int) (x0 : ByteArray) : runF tab ext116 false 46 [] 2000 [] tys116 Try.f116.results [true, false, false, true, true, true] (cutAt b116 4) (E116_4 v18 x0) (L116_4 v18 x0) = some ([Dyn.mk Ty.bool Bool.false], [], [Decidable.decide (v18 < (↑(List.length (bytesOf x0)) : Int)) = Bool.true, 0 ≤ v18, v18 < (↑(List.length (bytesOf x0)) : Int), Decidable.decide (List.getD (bytesOf x0) (Int.toNat v18) 0 ≥ 97) = Bool.false, Decidable.decide (List.getD (bytesOf x0) (Int.toNat v18) 0 ≥ 48) = Bool.false, Bool.true = Bool.true, (v18 == 0) = Bool.true, Bool.true = Bool.true]) := by kernel_rfl
theorem p116_14 (v18 : Int) (x0 : ByteArray) : runF tab ext116 false 46 [] 2000 [] tys116 Try.f116.results [true, false, false, true, false, true] (cutAt b116 4) (E116_4 v18 x0) (L116_4 v18 x0) = some ([Dyn.mk Ty.bool Bool.false], [], [Decidable.decide (v18 < (↑(List.length (bytesOf x0)) : Int)) = Bool.true, 0 ≤ v18, v18 < (↑(List.length (bytesOf x0)) : Int), Decidable.decide (List.getD (bytesOf x0) (Int.toNat v18) 0 ≥ 97) = Bool.false, Decidable.decide (List.getD (bytesOf x0) (Int.toNat v18) 0 ≥ 48) = Bool.false, Bool.true = Bool.true, (v18 == 0) = Bool.false, Bool.true = Bool.true]) := by kernel_rfl
theorem p116_15 (v18 : Int) (x0 : ByteArray) : runF tab ext116 false 46 [] 2000 [] tys116 Try.f116.results [false] (cutAt b116 4) (E116_4 v18 x0) (L116_4 v18 x0) = some ([Dyn.mk Ty.bool Bool.true], [], [Decidable.decide (v18 < (↑(List.length (bytesOf x0)) : Int)) = Bool.false]) := by kernel_rfl
theorem snd116 : ∀ n, (∀ (x0 : ByteArray) ds, R116 n x0 ds → ∀ w0 O q, AtV Try.prog 116 (PostR ds [] [] q w0 O) 46 w0 O q [] [.code b116] (entE 0 0 sig116 (x0, ())) (entL sig116 (x0, ()))) ∧ (∀ (v18 : Int) (x0 : ByteArray) ds, R116_4 n v18 x0 ds → ∀ w0 O q, AtV Try.prog 116 (PostR ds [] [] q w0 O) 46 w0 O q [] (cutAt b116 4) (E116_4 v18 x0) (L116_4 v18 x0)) := by
  intro n
  induction n with
  | zero => exact ⟨fun _ _ h => by simp only [R116] at h, fun _ _ _ h => by simp only [R116_4] at h⟩
  | succ n ih =>
  obtain ⟨ih, ih4⟩ := ih
  refine ⟨?_, ?_⟩
  · intro x0 ds h w0 O q
    rw [R116] at h
    by_cases b0 : (Decidable.decide ((↑(ByteArray.size x0) : Int) < 1)) = true
    · rw [if_pos b0] at h
      subst h
      exact AtV.fin Try.func116 tabOk ext116Ok mixed (p116_0 x0) ⟨b0, rfl, trivial⟩
    · rw [if_neg b0] at h
      replace b0 := Bool.eq_false_iff.2 b0
      by_cases b1 : (Decidable.decide ((↑(ByteArray.size x0) : Int) > 10)) = true
      · rw [if_pos b1] at h
        subst h
        exact AtV.fin Try.func116 tabOk ext116Ok mixed (p116_1 x0) ⟨b0, b1, trivial⟩
      · rw [if_neg b1] at h
        replace b1 := Bool.eq_false_iff.2 b1
        exact AtV.runN tabOk ext116Ok mixed (p116_2 x0) ⟨b0, b1, trivial⟩ (ih4 _ _ _ h w0 O q)

  · intro v18 x0 ds h w0 O q
    rw [R116_4] at h
    by_cases b0 : (Decidable.decide (v18 < (↑(List.length (bytesOf x0)) : Int))) = true
    · rw [if_pos b0] at h
      obtain ⟨s0, s1, h⟩ := h
      by_cases b1 : (Decidable.decide (List.getD (bytesOf x0) (Int.toNat v18) 0 ≥ 97)) = true
      · rw [if_pos b1] at h
        by_cases b2 : (Decidable.decide (List.getD (bytesOf x0) (Int.toNat v18) 0 ≥ 48)) = true
        · rw [if_pos b2] at h
          by_cases b3 : (!Decidable.decide (List.getD (bytesOf x0) (Int.toNat v18) 0 ≤ 122)) = true
          · rw [if_pos b3] at h
            by_cases b4 : (v18 == 0) = true
            · rw [if_pos b4] at h
              subst h
              exact AtV.fin Try.func116 tabOk ext116Ok mixed (p116_3 v18 x0) ⟨b0, s0, s1, b1, b2, b3, b4, rfl, trivial⟩
            · rw [if_neg b4] at h
              replace b4 := Bool.eq_false_iff.2 b4
              by_cases b5 : (!Decidable.decide (List.getD (bytesOf x0) (Int.toNat v18) 0 ≤ 57)) = true
              · rw [if_pos b5] at h
                subst h
                exact AtV.fin Try.func116 tabOk ext116Ok mixed (p116_4 v18 x0) ⟨b0, s0, s1, b1, b2, b3, b4, b5, trivial⟩
              · rw [if_neg b5] at h
                replace b5 := Bool.eq_false_iff.2 b5
                obtain ⟨s2, h⟩ := h
                exact AtV.runN tabOk ext116Ok mixed (p116_5 v18 x0) ⟨b0, s0, s1, b1, b2, b3, b4, b5, s2, trivial⟩ (ih4 _ _ _ h w0 O q)
          · rw [if_neg b3] at h
            replace b3 := Bool.eq_false_iff.2 b3
            obtain ⟨s2, h⟩ := h
            exact AtV.runN tabOk ext116Ok mixed (p116_6 v18 x0) ⟨b0, s0, s1, b1, b2, b3, rfl, s2, trivial⟩ (ih4 _ _ _ h w0 O q)
        · rw [if_neg b2] at h
          replace b2 := Bool.eq_false_iff.2 b2
          by_cases b3 : (!Decidable.decide (List.getD (bytesOf x0) (Int.toNat v18) 0 ≤ 122)) = true
          · rw [if_pos b3] at h
            by_cases b4 : (v18 == 0) = true
            · rw [if_pos b4] at h
              subst h
              exact AtV.fin Try.func116 tabOk ext116Ok mixed (p116_7 v18 x0) ⟨b0, s0, s1, b1, b2, b3, b4, rfl, trivial⟩
            · rw [if_neg b4] at h
              replace b4 := Bool.eq_false_iff.2 b4
              subst h
              exact AtV.fin Try.func116 tabOk ext116Ok mixed (p116_8 v18 x0) ⟨b0, s0, s1, b1, b2, b3, b4, rfl, trivial⟩
          · rw [if_neg b3] at h
            replace b3 := Bool.eq_false_iff.2 b3
            obtain ⟨s2, h⟩ := h
            exact AtV.runN tabOk ext116Ok mixed (p116_9 v18 x0) ⟨b0, s0, s1, b1, b2, b3, rfl, s2, trivial⟩ (ih4 _ _ _ h w0 O q)
      · rw [if_neg b1] at h
        replace b1 := Bool.eq_false_iff.2 b1
        by_cases b2 : (Decidable.decide (List.getD (bytesOf x0) (Int.toNat v18) 0 ≥ 48)) = true
        · rw [if_pos b2] at h
          by_cases b3 : (v18 == 0) = true
          · rw [if_pos b3] at h
            subst h
            exact AtV.fin Try.func116 tabOk ext116Ok mixed (p116_10 v18 x0) ⟨b0, s0, s1, b1, b2, rfl, b3, rfl, trivial⟩
          · rw [if_neg b3] at h
            replace b3 := Bool.eq_false_iff.2 b3
            by_cases b4 : (!Decidable.decide (List.getD (bytesOf x0) (Int.toNat v18) 0 ≤ 57)) = true
            · rw [if_pos b4] at h
              subst h
              exact AtV.fin Try.func116 tabOk ext116Ok mixed (p116_11 v18 x0) ⟨b0, s0, s1, b1, b2, rfl, b3, b4, trivial⟩
            · rw [if_neg b4] at h
              replace b4 := Bool.eq_false_iff.2 b4
              obtain ⟨s2, h⟩ := h
              exact AtV.runN tabOk ext116Ok mixed (p116_12 v18 x0) ⟨b0, s0, s1, b1, b2, rfl, b3, b4, s2, trivial⟩ (ih4 _ _ _ h w0 O q)
        · rw [if_neg b2] at h
          replace b2 := Bool.eq_false_iff.2 b2
          by_cases b3 : (v18 == 0) = true
          · rw [if_pos b3] at h
            subst h
            exact AtV.fin Try.func116 tabOk ext116Ok mixed (p116_13 v18 x0) ⟨b0, s0, s1, b1, b2, rfl, b3, rfl, trivial⟩
          · rw [if_neg b3] at h
            replace b3 := Bool.eq_false_iff.2 b3
            subst h
            exact AtV.fin Try.func116 tabOk ext116Ok mixed (p116_14 v18 x0) ⟨b0, s0, s1, b1, b2, rfl, b3, rfl, trivial⟩
    · rw [if_neg b0] at h
      replace b0 := Bool.eq_false_iff.2 b0
      subst h
      exact AtV.fin Try.func116 tabOk ext116Ok mixed (p116_15 v18 x0) ⟨b0, trivial⟩



/-- A byte of a name, at its place. -/
def ok116 (i : Nat) (b : Int) : Bool := (decide (97 ≤ b) && decide (b ≤ 122)) || (!(i == 0) && (decide (48 ≤ b) && decide (b ≤ 57)))
def g116_0 (x0 : ByteArray) : Bool := decide (1 ≤ x0.size) && decide (x0.size ≤ 10) && allI ok116 0 (bytesOf x0)
def P116 (x0 : ByteArray) : Prop := True

theorem step116 (n i : Nat) (x0 : ByteArray) (hw : Wf .str x0) (hi : i < (bytesOf x0).length) (ds : List Dyn) :
    R116_4 (n + 1) (i : Int) x0 ds ↔ (if ok116 i ((bytesOf x0).getD i 0) = true then R116_4 n ((i : Int) + 1) x0 ds else ds = [⟨.bool, false⟩]) := by
  have hu := inR_up (xs := bytesOf x0) (by rw [bytesOf_length]; exact hw) hi
  rw [R116_4, if_pos (by simp; omega)]
  simp only [Int.toNat_natCast]
  have hb : (0 : Int) ≤ (i : Int) ∧ (i : Int) < ((bytesOf x0).length : Int) := by omega
  have hz : ((i : Int) == 0) = (i == 0) := by
    cases i with
    | zero => rfl
    | succ k => simp; omega
  simp only [hz, ok116, hu, true_and, hb.1, hb.2, ge_iff_le]
  by_cases h1 : (97 : Int) ≤ (bytesOf x0).getD i 0 <;> by_cases h2 : (bytesOf x0).getD i 0 ≤ 122 <;> by_cases h3 : (48 : Int) ≤ (bytesOf x0).getD i 0 <;> by_cases h4 : (bytesOf x0).getD i 0 ≤ 57 <;> rcases Bool.eq_false_or_eq_true (i == 0) with e0 | e0 <;> first | (exfalso; omega) | simp only [h1, h2, h3, h4, e0, decide_true, decide_false, Bool.not_true, Bool.not_false, Bool.true_and, Bool.false_and, Bool.and_true, Bool.and_false, Bool.true_or, Bool.or_true, Bool.or_false, Bool.false_or, if_true, if_false, Bool.false_eq_true]

theorem top116 (x0 : ByteArray) (hw : Wf .str x0) : R116 (x0.size + 1 + 1) x0 [⟨.bool, g116_0 x0⟩] := by
  have hl := bytesOf_length x0
  rw [R116]
  by_cases h0 : (x0.size : Int) < 1
  · rw [if_pos (by simpa using h0)]
    have : ¬ 1 ≤ x0.size := by omega
    simp [g116_0, this]
  · rw [if_neg (by simpa using h0)]
    by_cases h1 : (x0.size : Int) > 10
    · rw [if_pos (by simpa using h1)]
      have : ¬ x0.size ≤ 10 := by omega
      simp [g116_0, this]
    · rw [if_neg (by simpa using h1)]
      have key := loop_testI (bytesOf x0) 0 ok116 [(⟨.bool, false⟩ : Dyn)] [⟨.bool, true⟩] (fun n i ds => R116_4 n i x0 ds) (fun n => ?_) (fun n i hi hok ds hr => ?_) (fun n i hi hok => ?_)
      · rw [hl] at key
        have e : g116_0 x0 = allI ok116 0 (bytesOf x0) := by
          have a : 1 ≤ x0.size := by omega
          have b : x0.size ≤ 10 := by omega
          simp [g116_0, a, b]
        rw [e]
        cases h : allI ok116 0 (bytesOf x0) with
        | true => rw [if_pos h] at key; exact key
        | false => rw [if_neg (by rw [h]; simp)] at key; exact key
      · show R116_4 (n + 1) ((bytesOf x0).length : Int) x0 _
        rw [R116_4, if_neg (by simp)]
      · exact (step116 n i x0 hw hi ds).2 (by rw [if_pos hok]; exact hr)
      · exact (step116 n i x0 hw hi _).2 (by rw [if_neg (by rw [hok]; simp)])

def S116 : Am.Spec := { sig := sig116, pre := fun ⟨x0, _⟩ => P116 x0, res := fun ⟨x0, _⟩ => [⟨Ty.bool, g116_0 x0⟩] }
theorem con116 : Contract Try.prog 116 S116 := contract_of Try.func116 hb116 (Nat.le_of_ble_eq_true (by kernel_rfl)) (fun ⟨x0, _⟩ h hwf w0 O q =>
  (snd116 _).1 x0 _ (top116 x0 hwf.1) w0 O q)

end Go.Proofs.Ytjkeinpcphkfbaa

/- The contracts of the library that this program uses, laid at this program. Written by a tool of the kit. -/
set_option linter.unusedVariables false
set_option maxRecDepth 100000
namespace Go.Proofs
open Go.Shelf
def Try.lays144_ren : Go.Shelf.Ren := ⟨fun | 144 => 82 | 143 => 114 | 219 => 135 | 217 => 157 | 225 => 158 | 224 => 159 | 267 => 160 | 266 => 169 | 314 => 170 | n => n, fun | 9 => 9 | 4 => 4 | 3 => 3 | 5 => 5 | 46 => 130 | 146 => 156 | 51 => 155 | n => n, fun | 1 => 0 | n => n⟩
theorem Try.lays144 : Go.Proofs.Lays.n144 Try.prog Try.lays144_ren := {
  mixed := by kernel_rfl
  f143 := Try.func114.trans (congrArg some (by kernel_rfl))
  f144 := Try.func82.trans (congrArg some (by kernel_rfl))
  f217 := Try.func157.trans (congrArg some (by kernel_rfl))
  f219 := Try.func135.trans (congrArg some (by kernel_rfl))
  f224 := Try.func159.trans (congrArg some (by kernel_rfl))
  f225 := Try.func158.trans (congrArg some (by kernel_rfl))
  f266 := Try.func169.trans (congrArg some (by kernel_rfl))
  f267 := Try.func160.trans (congrArg some (by kernel_rfl))
  f314 := Try.func170.trans (congrArg some (by kernel_rfl))
  t3 := Try.underlying3
  a3 := Try.isAgg3
  z3 := Try.sizeOf3
  v3 := Try.zeroValue3
  t4 := Try.underlying4
  a4 := Try.isAgg4
  z4 := Try.sizeOf4
  v4 := Try.zeroValue4
  t5 := Try.underlying5
  a5 := Try.isAgg5
  z5 := Try.sizeOf5
  v5 := Try.zeroValue5
  t9 := Try.underlying9
  a9 := Try.isAgg9
  z9 := Try.sizeOf9
  v9 := Try.zeroValue9
  t46 := Try.underlying130
  a46 := Try.isAgg130
  z46 := Try.sizeOf130
  v46 := Try.zeroValue130
  t51 := Try.underlying155
  a51 := Try.isAgg155
  z51 := Try.sizeOf155
  v51 := Try.zeroValue155
  t146 := Try.underlying156
  a146 := Try.isAgg156
  z146 := Try.sizeOf156
  v146 := Try.zeroValue156
  g1 := by kernel_rfl }
theorem Try.strings_Contains (s sub : ByteArray) (m : Int) (w : World) (hs : s.size < 4294967281) (hm : w.cell? ⟨0, 0, none⟩ = some (.int .i64 m)) :
    Calls Try.prog 82 #[.string s, .string sub] w fun e w' => e = .returned (.bool (Lib.contains s.data.toList sub.data.toList)) ∧ w' = w := Any.strings_Contains Try.lays144 s sub m w hs hm
end Go.Proofs

/- Function 82 (strings.Contains): its contract, off what is known of the library. -/
set_option linter.unusedVariables false
set_option linter.unusedSimpArgs false
set_option maxRecDepth 100000
namespace Go.Proofs.Ytjkeinpcphkfbaa
open Go Go.Am Go.Proofs

def sig82 : List AT := [AT.v Ty.str, AT.v Ty.str]
def g82_0 (x0 x1 : ByteArray) : Bool := Lib.contains x0.data.toList x1.data.toList
def P82 (x0 x1 : ByteArray) : Prop := x0.size < 4294967281
def S82 : Am.Spec := { sig := sig82, pre := fun ⟨x0, x1, _⟩ => P82 x0 x1, res := fun ⟨x0, x1, _⟩ => [⟨Ty.bool, g82_0 x0 x1⟩] }
theorem con82 : Contract Try.prog 82 S82 := contract_flat rfl fun w ⟨x0, x1, _⟩ vs bss hg hp hw ha => by
  obtain ⟨v0, s0, _, _, rfl, _, ⟨_, rfl, _⟩, v1, s1, _, _, rfl, _, ⟨_, rfl, _⟩, rfl, _⟩ := ha
  refine ⟨fun d hd => by rw [List.mem_singleton.1 hd]; exact ⟨rfl, trivial⟩, ?_⟩
  obtain ⟨m, hm⟩ := hg _ (List.mem_singleton.2 rfl)
  refine (Try.strings_Contains x0 x1 m w hp hm).mono ?_
  rintro e w' ⟨rfl, rfl⟩
  exact ⟨rfl, Kept.refl _ _⟩

end Go.Proofs.Ytjkeinpcphkfbaa

/- Function 84 (impl.ValidBlock): its runs between cut points. Written by a program of this repo (gen). -/
set_option linter.unusedVariables false
set_option linter.unusedSimpArgs false
set_option maxRecDepth 100000
namespace Go.Proofs.Ytjkeinpcphkfbaa
open Go Go.Am Go.Proofs
def ext84 : Ext := [(116, S116), (82, S82)]
theorem call84_116 : Callable Try.prog 116 := ⟨Try.f116, Try.func116, by kernel_rfl, by kernel_rfl⟩
theorem call84_82 : Callable Try.prog 82 := ⟨Try.f82, Try.func82, by kernel_rfl, by kernel_rfl⟩
theorem ext84Ok : ExtOk Try.prog ext84 := ⟨⟨call84_116, con116⟩, ⟨call84_82, con82⟩, trivial⟩
/-! Function 84. -/
noncomputable def b84 : Code := bodyOf Try.f84
theorem hb84 : Try.f84.body = some b84 := by kernel_rfl
def sig84 : List AT := [AT.v (Ty.cons Ty.str (Ty.cons Ty.str (Ty.cons Ty.str Ty.unit)))]
def tys84 : List Ty := [Ty.bool]
def P84 (x0 : ByteArray × ByteArray × ByteArray × Unit) : Prop := (if (g116_0 (Prod.fst x0)) = true then (if (g116_0 (Prod.fst (Prod.snd x0))) = true then (if (Decidable.decide ((↑(ByteArray.size (Prod.fst (Prod.snd (Prod.snd x0)))) : Int) ≤ 400)) = true then ((P82 (Prod.fst (Prod.snd (Prod.snd x0))) (ByteArray.mk #[10])) ∧ True) else True) else True) else True)
def g84_0 (x0 : ByteArray × ByteArray × ByteArray × Unit) : Bool := (if (g116_0 (Prod.fst x0)) = true then (if (g116_0 (Prod.fst (Prod.snd x0))) = true then (if (Decidable.decide ((↑(ByteArray.size (Prod.fst (Prod.snd (Prod.snd x0)))) : Int) ≤ 400)) = true then !g82_0 (Prod.fst (Prod.snd (Prod.snd x0))) (ByteArray.mk #[10]) else Bool.false) else Bool.false) else Bool.false)
theorem p84_0 (x0 : ByteArray × ByteArray × ByteArray × Unit) : runF tab ext84 false 23 [] 2000 [] tys84 Try.f84.results [true, true, true] [.code b84] (entE 0 0 sig84 (x0, ())) (entL sig84 (x0, ())) = some ([Dyn.mk Ty.bool !g82_0 (Prod.fst (Prod.snd (Prod.snd x0))) (ByteArray.mk #[10])], [], [True, g116_0 (Prod.fst x0) = Bool.true, True, g116_0 (Prod.fst (Prod.snd x0)) = Bool.true, Decidable.decide ((↑(ByteArray.size (Prod.fst (Prod.snd (Prod.snd x0)))) : Int) ≤ 400) = Bool.true, P82 (Prod.fst (Prod.snd (Prod.snd x0))) (ByteArray.mk #[10])]) := by kernel_rfl
theorem p84_1 (x0 : ByteArray × ByteArray × ByteArray × Unit) : runF tab ext84 false 23 [] 2000 [] tys84 Try.f84.results [true, true, false] [.code b84] (entE 0 0 sig84 (x0, ())) (entL sig84 (x0, ())) = some ([Dyn.mk Ty.bool Bool.false], [], [True, g116_0 (Prod.fst x0) = Bool.true, True, g116_0 (Prod.fst (Prod.snd x0)) = Bool.true, Decidable.decide ((↑(ByteArray.size (Prod.fst (Prod.snd (Prod.snd x0)))) : Int) ≤ 400) = Bool.false]) := by kernel_rfl
theorem p84_2 (x0 : ByteArray × ByteArray × ByteArray × Unit) : runF tab ext84 false 23 [] 2000 [] tys84 Try.f84.results [true, false, false] [.code b84] (entE 0 0 sig84 (x0, ())) (entL sig84 (x0, ())) = some ([Dyn.mk Ty.bool Bool.false], [], [True, g116_0 (Prod.fst x0) = Bool.true, True, g116_0 (Prod.fst (Prod.snd x0)) = Bool.false, Bool.false = Bool.false]) := by kernel_rfl
theorem p84_3 (x0 : ByteArray × ByteArray × ByteArray × Unit) : runF tab ext84 false 23 [] 2000 [] tys84 Try.f84.results [false, false, false] [.code b84] (entE 0 0 sig84 (x0, ())) (entL sig84 (x0, ())) = some ([Dyn.mk Ty.bool Bool.false], [], [True, g116_0 (Prod.fst x0) = Bool.false, Bool.false = Bool.false, Bool.false = Bool.false]) := by kernel_rfl
theorem at84 (x0 : ByteArray × ByteArray × ByteArray × Unit) (h : P84 x0) (w0 : World) (O : List Nat) (q : Nat → Value) : AtV Try.prog 84 (PostR [⟨Ty.bool, g84_0 x0⟩] [] [] q w0 O) 23 w0 O q [] [.code b84] (entE 0 0 sig84 (x0, ())) (entL sig84 (x0, ())) := by
  unfold P84 at h
  unfold g84_0
  by_cases b0 : (g116_0 (Prod.fst x0)) = true
  · try simp only [if_pos b0] at h ⊢
    by_cases b1 : (g116_0 (Prod.fst (Prod.snd x0))) = true
    · try simp only [if_pos b1] at h ⊢
      by_cases b2 : (Decidable.decide ((↑(ByteArray.size (Prod.fst (Prod.snd (Prod.snd x0)))) : Int) ≤ 400)) = true
      · try simp only [if_pos b2] at h ⊢
        obtain ⟨s0, h⟩ := h
        exact AtV.fin Try.func84 tabOk ext84Ok mixed (p84_0 x0) ⟨trivial, b0, trivial, b1, b2, s0, trivial⟩
      · try simp only [if_neg b2] at h ⊢
        replace b2 := Bool.eq_false_iff.2 b2
        exact AtV.fin Try.func84 tabOk ext84Ok mixed (p84_1 x0) ⟨trivial, b0, trivial, b1, b2, trivial⟩
    · try simp only [if_neg b1] at h ⊢
      replace b1 := Bool.eq_false_iff.2 b1
      exact AtV.fin Try.func84 tabOk ext84Ok mixed (p84_2 x0) ⟨trivial, b0, trivial, b1, rfl, trivial⟩
  · try simp only [if_neg b0] at h ⊢
    replace b0 := Bool.eq_false_iff.2 b0
    exact AtV.fin Try.func84 tabOk ext84Ok mixed (p84_3 x0) ⟨trivial, b0, rfl, rfl, trivial⟩

def S84 : Am.Spec := { sig := sig84, pre := fun ⟨x0, _⟩ => P84 x0, res := fun ⟨x0, _⟩ => [⟨Ty.bool, g84_0 x0⟩] }
theorem con84 : Contract Try.prog 84 S84 := contract_of Try.func84 hb84 (Nat.le_of_ble_eq_true (by kernel_rfl)) (fun ⟨x0, _⟩ h _ w0 O q => at84 x0 h w0 O q)


theorem pre84 (x : ByteArray × ByteArray × ByteArray × Unit) : P84 x := by
  unfold P84
  split
  · split
    · split
      · rename_i h
        simp only [decide_eq_true_eq] at h
        refine ⟨?_, trivial⟩
        show x.2.2.1.size < 4294967281
        omega
      · trivial
    · trivial
  · trivial

end Go.Proofs.Ytjkeinpcphkfbaa

/- Function 136 (cmp.isNaN[string]): its runs between cut points. Written by a program of this repo (gen). -/
set_option linter.unusedVariables false
set_option linter.unusedSimpArgs false
set_option maxRecDepth 100000
namespace Go.Proofs.Ytjkeinpcphkfbaa
open Go Go.Am Go.Proofs
def ext136 : Ext := []
theorem ext136Ok : ExtOk Try.prog ext136 := trivial
/-! Function 136. -/
noncomputable def b136 : Code := bodyOf Try.f136
theorem hb136 : Try.f136.body = some b136 := by kernel_rfl
def sig136 : List AT := [AT.v (Ty.str)]
def tys136 : List Ty := [Ty.bool]
def P136 (x0 : ByteArray) : Prop := True
def g136_0 (x0 : ByteArray) : Bool := !ByteArray.toList x0 == ByteArray.toList x0
theorem p136_0 (x0 : ByteArray) : runF tab ext136 false 6 [] 2000 [] tys136 Try.f136.results [] [.code b136] (entE 0 0 sig136 (x0, ())) (entL sig136 (x0, ())) = some ([Dyn.mk Ty.bool !ByteArray.toList x0 == ByteArray.toList x0], [], []) := by kernel_rfl
theorem at136 (x0 : ByteArray) (h : P136 x0) (w0 : World) (O : List Nat) (q : Nat → Value) : AtV Try.prog 136 (PostR [⟨Ty.bool, g136_0 x0⟩] [] [] q w0 O) 6 w0 O q [] [.code b136] (entE 0 0 sig136 (x0, ())) (entL sig136 (x0, ())) := by
  unfold P136 at h
  unfold g136_0
  exact AtV.fin Try.func136 tabOk ext136Ok mixed (p136_0 x0) trivial

def S136 : Am.Spec := { sig := sig136, pre := fun ⟨x0, _⟩ => P136 x0, res := fun ⟨x0, _⟩ => [⟨Ty.bool, g136_0 x0⟩] }
theorem con136 : Contract Try.prog 136 S136 := contract_of Try.func136 hb136 (Nat.le_of_ble_eq_true (by kernel_rfl)) (fun ⟨x0, _⟩ h _ w0 O q => at136 x0 h w0 O q)


end Go.Proofs.Ytjkeinpcphkfbaa

/- Function 118 (cmp.Compare[string]): its runs between cut points. Written by a program of this repo (gen). -/
set_option linter.unusedVariables false
set_option linter.unusedSimpArgs false
set_option maxRecDepth 100000
namespace Go.Proofs.Ytjkeinpcphkfbaa
open Go Go.Am Go.Proofs
def ext118 : Ext := [(136, S136)]
theorem call118_136 : Callable Try.prog 136 := ⟨Try.f136, Try.func136, by kernel_rfl, by kernel_rfl⟩
theorem ext118Ok : ExtOk Try.prog ext118 := ⟨⟨call118_136, con136⟩, trivial⟩
/-! Function 118. -/
noncomputable def b118 : Code := bodyOf Try.f118
theorem hb118 : Try.f118.body = some b118 := by kernel_rfl
def sig118 : List AT := [AT.v (Ty.str), AT.v (Ty.str)]
def tys118 : List Ty := [Ty.int IntKind.i64]
def P118 (x0 : ByteArray) (x1 : ByteArray) : Prop := True
def g118_0 (x0 : ByteArray) (x1 : ByteArray) : Int := (if (g136_0 x0) = true then (if (g136_0 x1) = true then 0 else -1) else (if (g136_0 x1) = true then 1 else (if (Op.bytesLess (ByteArray.toList x0) (ByteArray.toList x1)) = true then -1 else (if (!(Op.bytesLess (ByteArray.toList x0) (ByteArray.toList x1) || ByteArray.toList x0 == ByteArray.toList x1)) = true then 1 else 0))))
theorem p118_0 (x0 : ByteArray) (x1 : ByteArray) : runF tab ext118 false 20 [] 2000 [] tys118 Try.f118.results [true, true] [.code b118] (entE 0 0 sig118 (x0, x1, ())) (entL sig118 (x0, x1, ())) = some ([Dyn.mk (Ty.int IntKind.i64) 0], [], [True, True, g136_0 x0 = Bool.true, g136_0 x1 = Bool.true]) := by kernel_rfl
theorem p118_1 (x0 : ByteArray) (x1 : ByteArray) : runF tab ext118 false 20 [] 2000 [] tys118 Try.f118.results [true, false] [.code b118] (entE 0 0 sig118 (x0, x1, ())) (entL sig118 (x0, x1, ())) = some ([Dyn.mk (Ty.int IntKind.i64) (-1)], [], [True, True, g136_0 x0 = Bool.true, g136_0 x1 = Bool.false]) := by kernel_rfl
theorem p118_2 (x0 : ByteArray) (x1 : ByteArray) : runF tab ext118 false 20 [] 2000 [] tys118 Try.f118.results [false, true] [.code b118] (entE 0 0 sig118 (x0, x1, ())) (entL sig118 (x0, x1, ())) = some ([Dyn.mk (Ty.int IntKind.i64) 1], [], [True, True, g136_0 x0 = Bool.false, g136_0 x1 = Bool.true]) := by kernel_rfl
theorem p118_3 (x0 : ByteArray) (x1 : ByteArray) : runF tab ext118 false 20 [] 2000 [] tys118 Try.f118.results [false, false, true] [.code b118] (entE 0 0 sig118 (x0, x1, ())) (entL sig118 (x0, x1, ())) = some ([Dyn.mk (Ty.int IntKind.i64) (-1)], [], [True, True, g136_0 x0 = Bool.false, g136_0 x1 = Bool.false, Op.bytesLess (ByteArray.toList x0) (ByteArray.toList x1) = Bool.true]) := by kernel_rfl
theorem p118_4 (x0 : ByteArray) (x1 : ByteArray) : runF tab ext118 false 20 [] 2000 [] tys118 Try.f118.results [false, false, false, true] [.code b118] (entE 0 0 sig118 (x0, x1, ())) (entL sig118 (x0, x1, ())) = some ([Dyn.mk (Ty.int IntKind.i64) 1], [], [True, True, g136_0 x0 = Bool.false, g136_0 x1 = Bool.false, Op.bytesLess (ByteArray.toList x0) (ByteArray.toList x1) = Bool.false, (!(Op.bytesLess (ByteArray.toList x0) (ByteArray.toList x1) || ByteArray.toList x0 == ByteArray.toList x1)) = Bool.true]) := by kernel_rfl
theorem p118_5 (x0 : ByteArray) (x1 : ByteArray) : runF tab ext118 false 20 [] 2000 [] tys118 Try.f118.results [false, false, false, false] [.code b118] (entE 0 0 sig118 (x0, x1, ())) (entL sig118 (x0, x1, ())) = some ([Dyn.mk (Ty.int IntKind.i64) 0], [], [True, True, g136_0 x0 = Bool.false, g136_0 x1 = Bool.false, Op.bytesLess (ByteArray.toList x0) (ByteArray.toList x1) = Bool.false, (!(Op.bytesLess (ByteArray.toList x0) (ByteArray.toList x1) || ByteArray.toList x0 == ByteArray.toList x1)) = Bool.false]) := by kernel_rfl
theorem at118 (x0 : ByteArray) (x1 : ByteArray) (h : P118 x0 x1) (w0 : World) (O : List Nat) (q : Nat → Value) : AtV Try.prog 118 (PostR [⟨Ty.int IntKind.i64, g118_0 x0 x1⟩] [] [] q w0 O) 20 w0 O q [] [.code b118] (entE 0 0 sig118 (x0, x1, ())) (entL sig118 (x0, x1, ())) := by
  unfold P118 at h
  unfold g118_0
  by_cases b0 : (g136_0 x0) = true
  · try simp only [if_pos b0] at h ⊢
    by_cases b1 : (g136_0 x1) = true
    · try simp only [if_pos b1] at h ⊢
      exact AtV.fin Try.func118 tabOk ext118Ok mixed (p118_0 x0 x1) ⟨trivial, trivial, b0, b1, trivial⟩
    · try simp only [if_neg b1] at h ⊢
      replace b1 := Bool.eq_false_iff.2 b1
      exact AtV.fin Try.func118 tabOk ext118Ok mixed (p118_1 x0 x1) ⟨trivial, trivial, b0, b1, trivial⟩
  · try simp only [if_neg b0] at h ⊢
    replace b0 := Bool.eq_false_iff.2 b0
    by_cases b1 : (g136_0 x1) = true
    · try simp only [if_pos b1] at h ⊢
      exact AtV.fin Try.func118 tabOk ext118Ok mixed (p118_2 x0 x1) ⟨trivial, trivial, b0, b1, trivial⟩
    · try simp only [if_neg b1] at h ⊢
      replace b1 := Bool.eq_false_iff.2 b1
      by_cases b2 : (Op.bytesLess (ByteArray.toList x0) (ByteArray.toList x1)) = true
      · try simp only [if_pos b2] at h ⊢
        exact AtV.fin Try.func118 tabOk ext118Ok mixed (p118_3 x0 x1) ⟨trivial, trivial, b0, b1, b2, trivial⟩
      · try simp only [if_neg b2] at h ⊢
        replace b2 := Bool.eq_false_iff.2 b2
        by_cases b3 : (!(Op.bytesLess (ByteArray.toList x0) (ByteArray.toList x1) || ByteArray.toList x0 == ByteArray.toList x1)) = true
        · try simp only [if_pos b3] at h ⊢
          exact AtV.fin Try.func118 tabOk ext118Ok mixed (p118_4 x0 x1) ⟨trivial, trivial, b0, b1, b2, b3, trivial⟩
        · try simp only [if_neg b3] at h ⊢
          replace b3 := Bool.eq_false_iff.2 b3
          exact AtV.fin Try.func118 tabOk ext118Ok mixed (p118_5 x0 x1) ⟨trivial, trivial, b0, b1, b2, b3, trivial⟩

def S118 : Am.Spec := { sig := sig118, pre := fun ⟨x0, x1, _⟩ => P118 x0 x1, res := fun ⟨x0, x1, _⟩ => [⟨Ty.int IntKind.i64, g118_0 x0 x1⟩] }
theorem con118 : Contract Try.prog 118 S118 := contract_of Try.func118 hb118 (Nat.le_of_ble_eq_true (by kernel_rfl)) (fun ⟨x0, x1, _⟩ h _ w0 O q => at118 x0 x1 h w0 O q)


end Go.Proofs.Ytjkeinpcphkfbaa

/- Function 117 (cmp.Or[int]): its runs between cut points. Written by a program of this repo (gen). -/
set_option linter.unusedVariables false
set_option linter.unusedSimpArgs false
set_option maxRecDepth 100000
namespace Go.Proofs.Ytjkeinpcphkfbaa
open Go Go.Am Go.Proofs
def ext117 : Ext := []
theorem ext117Ok : ExtOk Try.prog ext117 := trivial
/-! Function 117. -/
noncomputable def b117 : Code := bodyOf Try.f117
theorem hb117 : Try.f117.body = some b117 := by kernel_rfl
def sig117 : List AT := [AT.v (Ty.sl (Ty.int IntKind.i64))]
def tys117 : List Ty := [Ty.int IntKind.i64]
def E117_3 (v8 : Int) (x0 : List Int) : Env := [(3, PV.a (Atom.val (Value.int IntKind.i64 0))), (6, PV.a (Atom.sl (Ty.int IntKind.i64) x0)), (7, PV.a (Atom.val (Value.int IntKind.i64 (↑(List.length x0) : Int)))), (8, PV.a (Atom.val (Value.int IntKind.i64 v8)))]
def L117_3 (v8 : Int) (x0 : List Int) : Heap := []
mutual
def R117 : Nat → List Int → List Dyn → Prop
  | 0, _, _ => False
  | n + 1, x0, ds => (R117_3 n (0) (x0) ds)
def R117_3 : Nat → Int → List Int → List Dyn → Prop
  | 0, _, _, _ => False
  | n + 1, v8, x0, ds => (if (Decidable.decide (v8 < (↑(List.length x0) : Int))) = true then ((0 ≤ v8) ∧ (v8 < (↑(List.length x0) : Int)) ∧ (if (List.getD x0 (Int.toNat v8) 0 != 0) = true then (ds = [Dyn.mk (Ty.int IntKind.i64) (List.getD x0 (Int.toNat v8) 0)]) else ((InR IntKind.i64 (v8 + 1)) ∧ (R117_3 n (v8 + 1) (x0) ds)))) else (ds = [Dyn.mk (Ty.int IntKind.i64) 0]))
end
theorem p117_0 (x0 : List Int) : Am.runN tab ext117 false 18 [] 2000 [] [] [3, 6, 7, 8] [] [] [.code b117] (entE 0 0 sig117 (x0, ())) (entL sig117 (x0, ())) = some (cutAt b117 3, E117_3 (0) (x0), L117_3 (0) (x0), []) := by kernel_rfl
theorem p117_1 (v8 : Int) (x0 : List Int) : runF tab ext117 false 18 [] 2000 [] tys117 Try.f117.results [true, true] (cutAt b117 3) (E117_3 v8 x0) (L117_3 v8 x0) = some ([Dyn.mk (Ty.int IntKind.i64) (List.getD x0 (Int.toNat v8) 0)], [], [Decidable.decide (v8 < (↑(List.length x0) : Int)) = Bool.true, 0 ≤ v8, v8 < (↑(List.length x0) : Int), (List.getD x0 (Int.toNat v8) 0 != 0) = Bool.true]) := by kernel_rfl
theorem p117_2 (v8 : Int) (x0 : List Int) : Am.runN tab ext117 false 18 [] 2000 [] [] [3, 6, 7, 8] [] [true, false] (cutAt b117 3) (E117_3 v8 x0) (L117_3 v8 x0) = some (cutAt b117 3, E117_3 (v8 + 1) (x0), L117_3 (v8 + 1) (x0), [Decidable.decide (v8 < (↑(List.length x0) : Int)) = Bool.true, 0 ≤ v8, v8 < (↑(List.length x0) : Int), (List.getD x0 (Int.toNat v8) 0 != 0) = Bool.false, InR IntKind.i64 (v8 + 1)]) := by kernel_rfl
theorem p117_3 (v8 : Int) (x0 : List Int) : runF tab ext117 false 18 [] 2000 [] tys117 Try.f117.results [false] (cutAt b117 3) (E117_3 v8 x0) (L117_3 v8 x0) = some ([Dyn.mk (Ty.int IntKind.i64) 0], [], [Decidable.decide (v8 < (↑(List.length x0) : Int)) = Bool.false]) := by kernel_rfl
theorem snd117 : ∀ n, (∀ (x0 : List Int) ds, R117 n x0 ds → ∀ w0 O q, AtV Try.prog 117 (PostR ds [] [] q w0 O) 18 w0 O q [] [.code b117] (entE 0 0 sig117 (x0, ())) (entL sig117 (x0, ()))) ∧ (∀ (v8 : Int) (x0 : List Int) ds, R117_3 n v8 x0 ds → ∀ w0 O q, AtV Try.prog 117 (PostR ds [] [] q w0 O) 18 w0 O q [] (cutAt b117 3) (E117_3 v8 x0) (L117_3 v8 x0)) := by
  intro n
  induction n with
  | zero => exact ⟨fun _ _ h => by simp only [R117] at h, fun _ _ _ h => by simp only [R117_3] at h⟩
  | succ n ih =>
  obtain ⟨ih, ih3⟩ := ih
  refine ⟨?_, ?_⟩
  · intro x0 ds h w0 O q
    rw [R117] at h
    exact AtV.runN tabOk ext117Ok mixed (p117_0 x0) trivial (ih3 _ _ _ h w0 O q)

  · intro v8 x0 ds h w0 O q
    rw [R117_3] at h
    by_cases b0 : (Decidable.decide (v8 < (↑(List.length x0) : Int))) = true
    · rw [if_pos b0] at h
      obtain ⟨s0, s1, h⟩ := h
      by_cases b1 : (List.getD x0 (Int.toNat v8) 0 != 0) = true
      · rw [if_pos b1] at h
        subst h
        exact AtV.fin Try.func117 tabOk ext117Ok mixed (p117_1 v8 x0) ⟨b0, s0, s1, b1, trivial⟩
      · rw [if_neg b1] at h
        replace b1 := Bool.eq_false_iff.2 b1
        obtain ⟨s2, h⟩ := h
        exact AtV.runN tabOk ext117Ok mixed (p117_2 v8 x0) ⟨b0, s0, s1, b1, s2, trivial⟩ (ih3 _ _ _ h w0 O q)
    · rw [if_neg b0] at h
      replace b0 := Bool.eq_false_iff.2 b0
      subst h
      exact AtV.fin Try.func117 tabOk ext117Ok mixed (p117_3 v8 x0) ⟨b0, trivial⟩



def g117_0 : List Int → Int
  | [] => 0
  | x :: r => if x != 0 then x else g117_0 r
def P117 (x0 : List Int) : Prop := True

theorem goL117 : ∀ (xs : List Int), goL (fun (_ : Unit) (x : Int) => if (x != 0) = true then Except.error [(⟨.int .i64, x⟩ : Dyn)] else .ok ()) (fun _ => [⟨.int .i64, (0 : Int)⟩]) () xs = [⟨.int .i64, g117_0 xs⟩]
  | [] => rfl
  | x :: r => by
    simp only [goL, g117_0]
    cases h : x != 0 with
    | true => simp
    | false => simpa using goL117 r

theorem top117 (x0 : List Int) (hm : x0.length ≤ maxLen) : R117 (x0.length + 1 + 1) x0 [⟨.int .i64, g117_0 x0⟩] := by
  rw [R117, ← goL117]
  refine loop_all x0 0 _ _ (fun _ _ => True) (fun n i _ ds => R117_3 n i x0 ds) trivial ?_ ?_
  · intro n b _
    show R117_3 (n + 1) x0.length x0 _
    rw [R117_3, if_neg (by simp)]
  · intro n i b hi _
    cases h : (x0.getD i 0 != 0) with
    | true =>
      show R117_3 (n + 1) (i : Int) x0 _
      rw [R117_3, if_pos (by simp; omega)]
      refine ⟨by omega, by omega, ?_⟩
      simp only [Int.toNat_natCast]
      rw [if_pos h] <;> trivial
    | false =>
      refine ⟨trivial, fun ds hr => ?_⟩
      rw [R117_3, if_pos (by simp; omega)]
      refine ⟨by omega, by omega, ?_⟩
      simp only [Int.toNat_natCast]
      rw [if_neg (by rw [h]; simp)]
      exact ⟨inR_up hm hi, hr⟩

def S117 : Am.Spec := { sig := sig117, pre := fun ⟨x0, _⟩ => P117 x0, res := fun ⟨x0, _⟩ => [⟨Ty.int .i64, g117_0 x0⟩] }
theorem con117 : Contract Try.prog 117 S117 := contract_of Try.func117 hb117 (Nat.le_of_ble_eq_true (by kernel_rfl)) (fun ⟨x0, _⟩ h hwf w0 O q =>
  (snd117 _).1 x0 _ (top117 x0 hwf.1.1) w0 O q)

end Go.Proofs.Ytjkeinpcphkfbaa

/- Function 85 (impl.compareBlocks): its runs between cut points. Written by a program of this repo (gen). -/
set_option linter.unusedVariables false
set_option linter.unusedSimpArgs false
set_option maxRecDepth 100000
namespace Go.Proofs.Ytjkeinpcphkfbaa
open Go Go.Am Go.Proofs
def ext85 : Ext := [(118, S118), (117, S117)]
theorem call85_118 : Callable Try.prog 118 := ⟨Try.f118, Try.func118, by kernel_rfl, by kernel_rfl⟩
theorem call85_117 : Callable Try.prog 117 := ⟨Try.f117, Try.func117, by kernel_rfl, by kernel_rfl⟩
theorem ext85Ok : ExtOk Try.prog ext85 := ⟨⟨call85_118, con118⟩, ⟨call85_117, con117⟩, trivial⟩
/-! Function 85. -/
noncomputable def b85 : Code := bodyOf Try.f85
theorem hb85 : Try.f85.body = some b85 := by kernel_rfl
def sig85 : List AT := [AT.v (Ty.cons Ty.str (Ty.cons Ty.str (Ty.cons Ty.str Ty.unit))), AT.v (Ty.cons Ty.str (Ty.cons Ty.str (Ty.cons Ty.str Ty.unit)))]
def tys85 : List Ty := [Ty.int IntKind.i64]
def P85 (x0 : ByteArray × ByteArray × ByteArray × Unit) (x1 : ByteArray × ByteArray × ByteArray × Unit) : Prop := True
def g85_0 (x0 : ByteArray × ByteArray × ByteArray × Unit) (x1 : ByteArray × ByteArray × ByteArray × Unit) : Int := g117_0 [g118_0 (Prod.fst x0) (Prod.fst x1), g118_0 (Prod.fst (Prod.snd x0)) (Prod.fst (Prod.snd x1))]
theorem p85_0 (x0 : ByteArray × ByteArray × ByteArray × Unit) (x1 : ByteArray × ByteArray × ByteArray × Unit) : runF tab ext85 false 17 [] 2000 [] tys85 Try.f85.results [] [.code b85] (entE 0 0 sig85 (x0, x1, ())) (entL sig85 (x0, x1, ())) = some ([Dyn.mk (Ty.int IntKind.i64) (g117_0 [g118_0 (Prod.fst x0) (Prod.fst x1), g118_0 (Prod.fst (Prod.snd x0)) (Prod.fst (Prod.snd x1))])], [], [True, True, True]) := by kernel_rfl
theorem at85 (x0 : ByteArray × ByteArray × ByteArray × Unit) (x1 : ByteArray × ByteArray × ByteArray × Unit) (h : P85 x0 x1) (w0 : World) (O : List Nat) (q : Nat → Value) : AtV Try.prog 85 (PostR [⟨Ty.int IntKind.i64, g85_0 x0 x1⟩] [] [] q w0 O) 17 w0 O q [] [.code b85] (entE 0 0 sig85 (x0, x1, ())) (entL sig85 (x0, x1, ())) := by
  unfold P85 at h
  unfold g85_0
  exact AtV.fin Try.func85 tabOk ext85Ok mixed (p85_0 x0 x1) ⟨trivial, trivial, trivial, trivial⟩

def S85 : Am.Spec := { sig := sig85, pre := fun ⟨x0, x1, _⟩ => P85 x0 x1, res := fun ⟨x0, x1, _⟩ => [⟨Ty.int IntKind.i64, g85_0 x0 x1⟩] }
theorem con85 : Contract Try.prog 85 S85 := contract_of Try.func85 hb85 (Nat.le_of_ble_eq_true (by kernel_rfl)) (fun ⟨x0, x1, _⟩ h _ w0 O q => at85 x0 x1 h w0 O q)


end Go.Proofs.Ytjkeinpcphkfbaa

/- Function 37 (impl.ValidBlocks): its runs between cut points. Written by a program of this repo (gen). -/
set_option linter.unusedVariables false
set_option linter.unusedSimpArgs false
set_option maxRecDepth 100000
namespace Go.Proofs.Ytjkeinpcphkfbaa
open Go Go.Am Go.Proofs
def ext37 : Ext := [(84, S84), (85, S85)]
theorem call37_84 : Callable Try.prog 84 := ⟨Try.f84, Try.func84, by kernel_rfl, by kernel_rfl⟩
theorem call37_85 : Callable Try.prog 85 := ⟨Try.f85, Try.func85, by kernel_rfl, by kernel_rfl⟩
theorem ext37Ok : ExtOk Try.prog ext37 := ⟨⟨call37_84, con84⟩, ⟨call37_85, con85⟩, trivial⟩
/-! Function 37. -/
noncomputable def b37 : Code := bodyOf Try.f37
theorem hb37 : Try.f37.body = some b37 := by kernel_rfl
def sig37 : List AT := [AT.v (Ty.sl (Ty.cons Ty.str (Ty.cons Ty.str (Ty.cons Ty.str Ty.unit))))]
def tys37 : List Ty := [Ty.bool]
def E37_2 (v7 : Int) (x0 : List (ByteArray × ByteArray × ByteArray × Unit)) : Env := [(0, PV.a (Atom.sl (Ty.cons Ty.str (Ty.cons Ty.str (Ty.cons Ty.str Ty.unit))) x0)), (5, PV.a (Atom.sl (Ty.cons Ty.str (Ty.cons Ty.str (Ty.cons Ty.str Ty.unit))) x0)), (6, PV.a (Atom.val (Value.int IntKind.i64 (↑(List.length x0) : Int)))), (7, PV.a (Atom.val (Value.int IntKind.i64 v7)))]
def L37_2 (v7 : Int) (x0 : List (ByteArray × ByteArray × ByteArray × Unit)) : Heap := []
mutual
def R37 : Nat → List (ByteArray × ByteArray × ByteArray × Unit) → List Dyn → Prop
  | 0, _, _ => False
  | n + 1, x0, ds => (R37_2 n (0) (x0) ds)
def R37_2 : Nat → Int → List (ByteArray × ByteArray × ByteArray × Unit) → List Dyn → Prop
  | 0, _, _, _ => False
  | n + 1, v7, x0, ds => (if (Decidable.decide (v7 < (↑(List.length x0) : Int))) = true then ((0 ≤ v7) ∧ (v7 < (↑(List.length x0) : Int)) ∧ ((P84 (List.getD x0 (Int.toNat v7) (ByteArray.empty, ByteArray.empty, ByteArray.empty, ()))) ∧ (if (!g84_0 (List.getD x0 (Int.toNat v7) (ByteArray.empty, ByteArray.empty, ByteArray.empty, ()))) = true then (ds = [Dyn.mk Ty.bool Bool.false]) else (if (Decidable.decide (v7 > 0)) = true then ((InR IntKind.i64 (v7 - 1)) ∧ ((0 ≤ v7 - 1) ∧ (v7 - 1 < (↑(List.length x0) : Int)) ∧ (if (Decidable.decide (g85_0 (List.getD x0 (Int.toNat (v7 - 1)) (ByteArray.empty, ByteArray.empty, ByteArray.empty, ())) (List.getD x0 (Int.toNat v7) (ByteArray.empty, ByteArray.empty, ByteArray.empty, ())) ≥ 0)) = true then (ds = [Dyn.mk Ty.bool Bool.false]) else ((InR IntKind.i64 (v7 + 1)) ∧ (R37_2 n (v7 + 1) (x0) ds))))) else ((InR IntKind.i64 (v7 + 1)) ∧ (R37_2 n (v7 + 1) (x0) ds)))))) else (ds = [Dyn.mk Ty.bool (Decidable.decide ((↑(List.length x0) : Int) ≤ 32))]))
end
theorem p37_0 (x0 : List (ByteArray × ByteArray × ByteArray × Unit)) : Am.runN tab ext37 false 33 [] 2000 [] [] [0, 5, 6, 7] [] [] [.code b37] (entE 0 0 sig37 (x0, ())) (entL sig37 (x0, ())) = some (cutAt b37 2, E37_2 (0) (x0), L37_2 (0) (x0), []) := by kernel_rfl
theorem p37_1 (v7 : Int) (x0 : List (ByteArray × ByteArray × ByteArray × Unit)) : runF tab ext37 false 33 [] 2000 [] tys37 Try.f37.results [true, true, true] (cutAt b37 2) (E37_2 v7 x0) (L37_2 v7 x0) = some ([Dyn.mk Ty.bool Bool.false], [], [Decidable.decide (v7 < (↑(List.length x0) : Int)) = Bool.true, 0 ≤ v7, v7 < (↑(List.length x0) : Int), P84 (List.getD x0 (Int.toNat v7) (ByteArray.empty, ByteArray.empty, ByteArray.empty, ())), (!g84_0 (List.getD x0 (Int.toNat v7) (ByteArray.empty, ByteArray.empty, ByteArray.empty, ()))) = Bool.true, Bool.true = Bool.true]) := by kernel_rfl
theorem p37_2 (v7 : Int) (x0 : List (ByteArray × ByteArray × ByteArray × Unit)) : runF tab ext37 false 33 [] 2000 [] tys37 Try.f37.results [true, false, true, true] (cutAt b37 2) (E37_2 v7 x0) (L37_2 v7 x0) = some ([Dyn.mk Ty.bool Bool.false], [], [Decidable.decide (v7 < (↑(List.length x0) : Int)) = Bool.true, 0 ≤ v7, v7 < (↑(List.length x0) : Int), P84 (List.getD x0 (Int.toNat v7) (ByteArray.empty, ByteArray.empty, ByteArray.empty, ())), (!g84_0 (List.getD x0 (Int.toNat v7) (ByteArray.empty, ByteArray.empty, ByteArray.empty, ()))) = Bool.false, Decidable.decide (v7 > 0) = Bool.true, InR IntKind.i64 (v7 - 1), 0 ≤ v7 - 1, v7 - 1 < (↑(List.length x0) : Int), True, Decidable.decide (g85_0 (List.getD x0 (Int.toNat (v7 - 1)) (ByteArray.empty, ByteArray.empty, ByteArray.empty, ())) (List.getD x0 (Int.toNat v7) (ByteArray.empty, ByteArray.empty, ByteArray.empty, ())) ≥ 0) = Bool.true]) := by kernel_rfl
theorem p37_3 (v7 : Int) (x0 : List (ByteArray × ByteArray × ByteArray × Unit)) : Am.runN tab ext37 false 33 [] 2000 [] [] [0, 5, 6, 7] [] [true, false, true, false] (cutAt b37 2) (E37_2 v7 x0) (L37_2 v7 x0) = some (cutAt b37 2, E37_2 (v7 + 1) (x0), L37_2 (v7 + 1) (x0), [Decidable.decide (v7 < (↑(List.length x0) : Int)) = Bool.true, 0 ≤ v7, v7 < (↑(List.length x0) : Int), P84 (List.getD x0 (Int.toNat v7) (ByteArray.empty, ByteArray.empty, ByteArray.empty, ())), (!g84_0 (List.getD x0 (Int.toNat v7) (ByteArray.empty, ByteArray.empty, ByteArray.empty, ()))) = Bool.false, Decidable.decide (v7 > 0) = Bool.true, InR IntKind.i64 (v7 - 1), 0 ≤ v7 - 1, v7 - 1 < (↑(List.length x0) : Int), True, Decidable.decide (g85_0 (List.getD x0 (Int.toNat (v7 - 1)) (ByteArray.empty, ByteArray.empty, ByteArray.empty, ())) (List.getD x0 (Int.toNat v7) (ByteArray.empty, ByteArray.empty, ByteArray.empty, ())) ≥ 0) = Bool.false, InR IntKind.i64 (v7 + 1)]) := by kernel_rfl
theorem p37_4 (v7 : Int) (x0 : List (ByteArray × ByteArray × ByteArray × Unit)) : Am.runN tab ext37 false 33 [] 2000 [] [] [0, 5, 6, 7] [] [true, false, false, false] (cutAt b37 2) (E37_2 v7 x0) (L37_2 v7 x0) = some (cutAt b37 2, E37_2 (v7 + 1) (x0), L37_2 (v7 + 1) (x0), [Decidable.decide (v7 < (↑(List.length x0) : Int)) = Bool.true, 0 ≤ v7, v7 < (↑(List.length x0) : Int), P84 (List.getD x0 (Int.toNat v7) (ByteArray.empty, ByteArray.empty, ByteArray.empty, ())), (!g84_0 (List.getD x0 (Int.toNat v7) (ByteArray.empty, ByteArray.empty, ByteArray.empty, ()))) = Bool.false, Decidable.decide (v7 > 0) = Bool.false, Bool.false = Bool.false, InR IntKind.i64 (v7 + 1)]) := by kernel_rfl
theorem p37_5 (v7 : Int) (x0 : List (ByteArray × ByteArray × ByteArray × Unit)) : runF tab ext37 false 33 [] 2000 [] tys37 Try.f37.results [false] (cutAt b37 2) (E37_2 v7 x0) (L37_2 v7 x0) = some ([Dyn.mk Ty.bool (Decidable.decide ((↑(List.length x0) : Int) ≤ 32))], [], [Decidable.decide (v7 < (↑(List.length x0) : Int)) = Bool.false]) := by kernel_rfl
theorem snd37 : ∀ n, (∀ (x0 : List (ByteArray × ByteArray × ByteArray × Unit)) ds, R37 n x0 ds → ∀ w0 O q, AtV Try.prog 37 (PostR ds [] [] q w0 O) 33 w0 O q [] [.code b37] (entE 0 0 sig37 (x0, ())) (entL sig37 (x0, ()))) ∧ (∀ (v7 : Int) (x0 : List (ByteArray × ByteArray × ByteArray × Unit)) ds, R37_2 n v7 x0 ds → ∀ w0 O q, AtV Try.prog 37 (PostR ds [] [] q w0 O) 33 w0 O q [] (cutAt b37 2) (E37_2 v7 x0) (L37_2 v7 x0)) := by
  intro n
  induction n with
  | zero => exact ⟨fun _ _ h => by simp only [R37] at h, fun _ _ _ h => by simp only [R37_2] at h⟩
  | succ n ih =>
  obtain ⟨ih, ih2⟩ := ih
  refine ⟨?_, ?_⟩
  · intro x0 ds h w0 O q
    rw [R37] at h
    exact AtV.runN tabOk ext37Ok mixed (p37_0 x0) trivial (ih2 _ _ _ h w0 O q)

  · intro v7 x0 ds h w0 O q
    rw [R37_2] at h
    by_cases b0 : (Decidable.decide (v7 < (↑(List.length x0) : Int))) = true
    · rw [if_pos b0] at h
      obtain ⟨s0, s1, h⟩ := h
      obtain ⟨s2, h⟩ := h
      by_cases b1 : (!g84_0 (List.getD x0 (Int.toNat v7) (ByteArray.empty, ByteArray.empty, ByteArray.empty, ()))) = true
      · rw [if_pos b1] at h
        subst h
        exact AtV.fin Try.func37 tabOk ext37Ok mixed (p37_1 v7 x0) ⟨b0, s0, s1, s2, b1, rfl, trivial⟩
      · rw [if_neg b1] at h
        replace b1 := Bool.eq_false_iff.2 b1
        by_cases b2 : (Decidable.decide (v7 > 0)) = true
        · rw [if_pos b2] at h
          obtain ⟨s3, h⟩ := h
          obtain ⟨s4, s5, h⟩ := h
          by_cases b3 : (Decidable.decide (g85_0 (List.getD x0 (Int.toNat (v7 - 1)) (ByteArray.empty, ByteArray.empty, ByteArray.empty, ())) (List.getD x0 (Int.toNat v7) (ByteArray.empty, ByteArray.empty, ByteArray.empty, ())) ≥ 0)) = true
          · rw [if_pos b3] at h
            subst h
            exact AtV.fin Try.func37 tabOk ext37Ok mixed (p37_2 v7 x0) ⟨b0, s0, s1, s2, b1, b2, s3, s4, s5, trivial, b3, trivial⟩
          · rw [if_neg b3] at h
            replace b3 := Bool.eq_false_iff.2 b3
            obtain ⟨s6, h⟩ := h
            exact AtV.runN tabOk ext37Ok mixed (p37_3 v7 x0) ⟨b0, s0, s1, s2, b1, b2, s3, s4, s5, trivial, b3, s6, trivial⟩ (ih2 _ _ _ h w0 O q)
        · rw [if_neg b2] at h
          replace b2 := Bool.eq_false_iff.2 b2
          obtain ⟨s3, h⟩ := h
          exact AtV.runN tabOk ext37Ok mixed (p37_4 v7 x0) ⟨b0, s0, s1, s2, b1, b2, rfl, s3, trivial⟩ (ih2 _ _ _ h w0 O q)
    · rw [if_neg b0] at h
      replace b0 := Bool.eq_false_iff.2 b0
      subst h
      exact AtV.fin Try.func37 tabOk ext37Ok mixed (p37_5 v7 x0) ⟨b0, trivial⟩



/-- A block at its place. -/
def ok37 (x0 : List (ByteArray × ByteArray × ByteArray × Unit)) (i : Nat) (x : ByteArray × ByteArray × ByteArray × Unit) : Bool :=
  g84_0 x && (i == 0 || !decide (g85_0 (x0.getD (i - 1) (ByteArray.empty, ByteArray.empty, ByteArray.empty, ())) x ≥ 0))
def g37_0 (x0 : List (ByteArray × ByteArray × ByteArray × Unit)) : Bool := allI (ok37 x0) 0 x0 && decide (x0.length ≤ 32)
def P37 (x0 : List (ByteArray × ByteArray × ByteArray × Unit)) : Prop := True

theorem step37 (n i : Nat) (x0 : List (ByteArray × ByteArray × ByteArray × Unit)) (hm : x0.length ≤ maxLen) (hi : i < x0.length) (ds : List Dyn) :
    (if ok37 x0 i (x0.getD i (ByteArray.empty, ByteArray.empty, ByteArray.empty, ())) = true then R37_2 n ((i : Int) + 1) x0 ds else ds = [⟨.bool, false⟩]) → R37_2 (n + 1) (i : Int) x0 ds := by
  intro h
  have hu := inR_up hm hi
  rw [R37_2, if_pos (by simp; omega)]
  refine ⟨by omega, by omega, ?_⟩
  simp only [Int.toNat_natCast]
  unfold ok37 at h
  refine ⟨pre84 _, ?_⟩
  by_cases h1 : g84_0 (x0.getD i (ByteArray.empty, ByteArray.empty, ByteArray.empty, ())) = true
  case neg =>
    have h1 := Bool.eq_false_iff.2 h1
    rw [h1] at h
    rw [if_pos (by rw [h1]; rfl)]
    simpa using h
  case pos =>
    rw [h1] at h
    rw [if_neg (by rw [h1]; simp)]
    by_cases h0 : (i : Int) > 0
    · rw [if_pos (by simpa using h0)]
      have hi0 : (i == 0) = false := by simp; omega
      have e : ((i : Int) - 1).toNat = i - 1 := by omega
      refine ⟨by rw [i64_iff]; have : maxLen ≤ 9223372036854775807 := by decide
                 omega, by omega, by omega, ?_⟩
      rw [e]
      by_cases h2 : g85_0 (x0.getD (i - 1) (ByteArray.empty, ByteArray.empty, ByteArray.empty, ())) (x0.getD i (ByteArray.empty, ByteArray.empty, ByteArray.empty, ())) ≥ 0
      · rw [if_pos (by simpa using h2)]
        rw [hi0, decide_eq_true h2] at h
        simpa using h
      · rw [if_neg (by simpa using h2)]
        rw [hi0, decide_eq_false h2] at h
        exact ⟨hu, by simpa using h⟩
    · rw [if_neg (by simpa using h0)]
      have hi0 : (i == 0) = true := by simp; omega
      rw [hi0] at h
      exact ⟨hu, by simpa using h⟩

theorem top37 (x0 : List (ByteArray × ByteArray × ByteArray × Unit)) (hw : x0.length ≤ maxLen) : R37 (x0.length + 1 + 1) x0 [⟨.bool, g37_0 x0⟩] := by
  rw [R37]
  have key := loop_testI x0 (ByteArray.empty, ByteArray.empty, ByteArray.empty, ()) (ok37 x0) [(⟨.bool, false⟩ : Dyn)] [⟨.bool, decide (x0.length ≤ 32)⟩] (fun n i ds => R37_2 n i x0 ds) (fun n => ?_) (fun n i hi hok ds hr => ?_) (fun n i hi hok => ?_)
  · unfold g37_0
    cases h : allI (ok37 x0) 0 x0 with
    | true => rw [if_pos h] at key; simpa using key
    | false => rw [if_neg (by rw [h]; simp)] at key; simpa using key
  · rw [R37_2, if_neg (by simp)]
    have hc : decide ((x0.length : Int) ≤ 32) = decide (x0.length ≤ 32) := by
      congr 1; exact propext ⟨fun h => by omega, fun h => by omega⟩
    rw [hc]
  · exact step37 n i x0 hw hi ds (by rw [if_pos hok]; exact hr)
  · exact step37 n i x0 hw hi _ (by rw [if_neg (by rw [hok]; simp)])

def S37 : Am.Spec := { sig := sig37, pre := fun ⟨x0, _⟩ => P37 x0, res := fun ⟨x0, _⟩ => [⟨Ty.bool, g37_0 x0⟩] }
theorem con37 : Contract Try.prog 37 S37 := contract_of Try.func37 hb37 (Nat.le_of_ble_eq_true (by kernel_rfl)) (fun ⟨x0, _⟩ h hwf w0 O q =>
  (snd37 _).1 x0 _ (top37 x0 hwf.1.1) w0 O q)

end Go.Proofs.Ytjkeinpcphkfbaa

/- Function 126 (slices.BinarySearchFunc[[]impl.Block,impl.Block,impl.Block]): its runs between cut points. Written by a program of this repo (gen). -/
set_option linter.unusedVariables false
set_option linter.unusedSimpArgs false
set_option maxRecDepth 100000
namespace Go.Proofs.Ytjkeinpcphkfbaa
open Go Go.Am Go.Proofs
def ext126c85 : Ext := [(85, S85)]
theorem call126c85_85 : Callable Try.prog 85 := ⟨Try.f85, Try.func85, by kernel_rfl, by kernel_rfl⟩
theorem ext126c85Ok : ExtOk Try.prog ext126c85 := ⟨⟨call126c85_85, con85⟩, trivial⟩
/-! Function 126c85. -/
noncomputable def b126c85 : Code := bodyOf Try.f126
theorem hb126c85 : Try.f126.body = some b126c85 := by kernel_rfl
def sig126c85 : List AT := [AT.v (Ty.sl (Ty.cons Ty.str (Ty.cons Ty.str (Ty.cons Ty.str Ty.unit)))), AT.v (Ty.cons Ty.str (Ty.cons Ty.str (Ty.cons Ty.str Ty.unit))), AT.fn 85 []]
def tys126c85 : List Ty := [Ty.int IntKind.i64, Ty.bool]
def E126c85_3 (v9 : Int) (v10 : Int) (x0 : List (ByteArray × ByteArray × ByteArray × Unit)) (x1 : ByteArray × ByteArray × ByteArray × Unit) : Env := [(0, PV.a (Atom.sl (Ty.cons Ty.str (Ty.cons Ty.str (Ty.cons Ty.str Ty.unit))) x0)), (2, PV.fn 85 []), (4, PV.a (Atom.optr 0 0 [])), (8, PV.a (Atom.val (Value.int IntKind.i64 (↑(List.length x0) : Int)))), (9, PV.a (Atom.val (Value.int IntKind.i64 v9))), (10, PV.a (Atom.val (Value.int IntKind.i64 v10)))]
def L126c85_3 (v9 : Int) (v10 : Int) (x0 : List (ByteArray × ByteArray × ByteArray × Unit)) (x1 : ByteArray × ByteArray × ByteArray × Unit) : Heap := [Option.some (Arr.mk (Ty.cons Ty.str (Ty.cons Ty.str (Ty.cons Ty.str Ty.unit))) [x1] Bool.true)]
mutual
def R126c85 : Nat → List (ByteArray × ByteArray × ByteArray × Unit) → ByteArray × ByteArray × ByteArray × Unit → List Dyn → Prop
  | 0, _, _, _ => False
  | n + 1, x0, x1, ds => (R126c85_3 n (0) ((↑(List.length x0) : Int)) (x0) (x1) ds)
def R126c85_3 : Nat → Int → Int → List (ByteArray × ByteArray × ByteArray × Unit) → ByteArray × ByteArray × ByteArray × Unit → List Dyn → Prop
  | 0, _, _, _, _, _ => False
  | n + 1, v9, v10, x0, x1, ds => (if (Decidable.decide (v9 < v10)) = true then ((InR IntKind.i64 (v9 + v10)) ∧ ((InR IntKind.u64 (v9 + v10)) ∧ ((InR IntKind.u64 (Int.fdiv (v9 + v10) 2)) ∧ ((InR IntKind.i64 (Int.fdiv (v9 + v10) 2)) ∧ ((0 ≤ Int.fdiv (v9 + v10) 2) ∧ (Int.fdiv (v9 + v10) 2 < (↑(List.length x0) : Int)) ∧ (if (Decidable.decide (g85_0 (List.getD x0 (Int.toNat (Int.fdiv (v9 + v10) 2)) (ByteArray.empty, ByteArray.empty, ByteArray.empty, ())) x1 < 0)) = true then ((InR IntKind.i64 (Int.fdiv (v9 + v10) 2 + 1)) ∧ (R126c85_3 n (Int.fdiv (v9 + v10) 2 + 1) (v10) (x0) (x1) ds)) else (R126c85_3 n (v9) (Int.fdiv (v9 + v10) 2) (x0) (x1) ds))))))) else (if (Decidable.decide (v9 < (↑(List.length x0) : Int))) = true then ((0 ≤ v9) ∧ (v9 < (↑(List.length x0) : Int)) ∧ (ds = [Dyn.mk (Ty.int IntKind.i64) v9, Dyn.mk Ty.bool (g85_0 (List.getD x0 (Int.toNat v9) (ByteArray.empty, ByteArray.empty, ByteArray.empty, ())) x1 == 0)])) else (ds = [Dyn.mk (Ty.int IntKind.i64) v9, Dyn.mk Ty.bool Bool.false])))
end
theorem p126c85_0 (x0 : List (ByteArray × ByteArray × ByteArray × Unit)) (x1 : ByteArray × ByteArray × ByteArray × Unit) : Am.runN tab ext126c85 false 49 [] 2000 [] [] [0, 2, 4, 8, 9, 10] [true] [] [.code b126c85] (entE 0 0 sig126c85 (x0, x1, (), ())) (entL sig126c85 (x0, x1, (), ())) = some (cutAt b126c85 3, E126c85_3 (0) ((↑(List.length x0) : Int)) (x0) (x1), L126c85_3 (0) ((↑(List.length x0) : Int)) (x0) (x1), []) := by kernel_rfl
theorem p126c85_1 (v9 : Int) (v10 : Int) (x0 : List (ByteArray × ByteArray × ByteArray × Unit)) (x1 : ByteArray × ByteArray × ByteArray × Unit) : Am.runN tab ext126c85 false 49 [] 2000 [] [] [0, 2, 4, 8, 9, 10] [true] [true, true] (cutAt b126c85 3) (E126c85_3 v9 v10 x0 x1) (L126c85_3 v9 v10 x0 x1) = some (cutAt b126c85 3, E126c85_3 (Int.fdiv (v9 + v10) 2 + 1) (v10) (x0) (x1), L126c85_3 (Int.fdiv (v9 + v10) 2 + 1) (v10) (x0) (x1), [Decidable.decide (v9 < v10) = Bool.true, InR IntKind.i64 (v9 + v10), InR IntKind.u64 (v9 + v10), (0 : Int) ≤ (1 : Int), InR IntKind.u64 (Int.fdiv (v9 + v10) 2), InR IntKind.i64 (Int.fdiv (v9 + v10) 2), 0 ≤ Int.fdiv (v9 + v10) 2, Int.fdiv (v9 + v10) 2 < (↑(List.length x0) : Int), True, Decidable.decide (g85_0 (List.getD x0 (Int.toNat (Int.fdiv (v9 + v10) 2)) (ByteArray.empty, ByteArray.empty, ByteArray.empty, ())) x1 < 0) = Bool.true, InR IntKind.i64 (Int.fdiv (v9 + v10) 2 + 1)]) := by kernel_rfl
theorem p126c85_2 (v9 : Int) (v10 : Int) (x0 : List (ByteArray × ByteArray × ByteArray × Unit)) (x1 : ByteArray × ByteArray × ByteArray × Unit) : Am.runN tab ext126c85 false 49 [] 2000 [] [] [0, 2, 4, 8, 9, 10] [true] [true, false] (cutAt b126c85 3) (E126c85_3 v9 v10 x0 x1) (L126c85_3 v9 v10 x0 x1) = some (cutAt b126c85 3, E126c85_3 (v9) (Int.fdiv (v9 + v10) 2) (x0) (x1), L126c85_3 (v9) (Int.fdiv (v9 + v10) 2) (x0) (x1), [Decidable.decide (v9 < v10) = Bool.true, InR IntKind.i64 (v9 + v10), InR IntKind.u64 (v9 + v10), (0 : Int) ≤ (1 : Int), InR IntKind.u64 (Int.fdiv (v9 + v10) 2), InR IntKind.i64 (Int.fdiv (v9 + v10) 2), 0 ≤ Int.fdiv (v9 + v10) 2, Int.fdiv (v9 + v10) 2 < (↑(List.length x0) : Int), True, Decidable.decide (g85_0 (List.getD x0 (Int.toNat (Int.fdiv (v9 + v10) 2)) (ByteArray.empty, ByteArray.empty, ByteArray.empty, ())) x1 < 0) = Bool.false]) := by kernel_rfl
theorem p126c85_3 (v9 : Int) (v10 : Int) (x0 : List (ByteArray × ByteArray × ByteArray × Unit)) (x1 : ByteArray × ByteArray × ByteArray × Unit) : runF tab ext126c85 false 49 [] 2000 [] tys126c85 Try.f126.results [false, true] (cutAt b126c85 3) (E126c85_3 v9 v10 x0 x1) (L126c85_3 v9 v10 x0 x1) = some ([Dyn.mk (Ty.int IntKind.i64) v9, Dyn.mk Ty.bool (g85_0 (List.getD x0 (Int.toNat v9) (ByteArray.empty, ByteArray.empty, ByteArray.empty, ())) x1 == 0)], [], [Decidable.decide (v9 < v10) = Bool.false, Decidable.decide (v9 < (↑(List.length x0) : Int)) = Bool.true, 0 ≤ v9, v9 < (↑(List.length x0) : Int), True]) := by kernel_rfl
theorem p126c85_4 (v9 : Int) (v10 : Int) (x0 : List (ByteArray × ByteArray × ByteArray × Unit)) (x1 : ByteArray × ByteArray × ByteArray × Unit) : runF tab ext126c85 false 49 [] 2000 [] tys126c85 Try.f126.results [false, false] (cutAt b126c85 3) (E126c85_3 v9 v10 x0 x1) (L126c85_3 v9 v10 x0 x1) = some ([Dyn.mk (Ty.int IntKind.i64) v9, Dyn.mk Ty.bool Bool.false], [], [Decidable.decide (v9 < v10) = Bool.false, Decidable.decide (v9 < (↑(List.length x0) : Int)) = Bool.false]) := by kernel_rfl
theorem snd126c85 : ∀ n, (∀ (x0 : List (ByteArray × ByteArray × ByteArray × Unit)) (x1 : ByteArray × ByteArray × ByteArray × Unit) ds, R126c85 n x0 x1 ds → ∀ w0 O q, AtV Try.prog 126 (PostR ds [] [] q w0 O) 49 w0 O q [] [.code b126c85] (entE 0 0 sig126c85 (x0, x1, (), ())) (entL sig126c85 (x0, x1, (), ()))) ∧ (∀ (v9 : Int) (v10 : Int) (x0 : List (ByteArray × ByteArray × ByteArray × Unit)) (x1 : ByteArray × ByteArray × ByteArray × Unit) ds, R126c85_3 n v9 v10 x0 x1 ds → ∀ w0 O q, AtV Try.prog 126 (PostR ds [] [] q w0 O) 49 w0 O q [] (cutAt b126c85 3) (E126c85_3 v9 v10 x0 x1) (L126c85_3 v9 v10 x0 x1)) := by
  intro n
  induction n with
  | zero => exact ⟨fun _ _ _ h => by simp only [R126c85] at h, fun _ _ _ _ _ h => by simp only [R126c85_3] at h⟩
  | succ n ih =>
  obtain ⟨ih, ih3⟩ := ih
  refine ⟨?_, ?_⟩
  · intro x0 x1 ds h w0 O q
    rw [R126c85] at h
    exact AtV.runN tabOk ext126c85Ok mixed (p126c85_0 x0 x1) trivial (ih3 _ _ _ _ _ h w0 O q)

  · intro v9 v10 x0 x1 ds h w0 O q
    rw [R126c85_3] at h
    by_cases b0 : (Decidable.decide (v9 < v10)) = true
    · rw [if_pos b0] at h
      obtain ⟨s0, h⟩ := h
      obtain ⟨s1, h⟩ := h
      obtain ⟨s2, h⟩ := h
      obtain ⟨s3, h⟩ := h
      obtain ⟨s4, s5, h⟩ := h
      by_cases b1 : (Decidable.decide (g85_0 (List.getD x0 (Int.toNat (Int.fdiv (v9 + v10) 2)) (ByteArray.empty, ByteArray.empty, ByteArray.empty, ())) x1 < 0)) = true
      · rw [if_pos b1] at h
        obtain ⟨s6, h⟩ := h
        exact AtV.runN tabOk ext126c85Ok mixed (p126c85_1 v9 v10 x0 x1) ⟨b0, s0, s1, (by decide), s2, s3, s4, s5, trivial, b1, s6, trivial⟩ (ih3 _ _ _ _ _ h w0 O q)
      · rw [if_neg b1] at h
        replace b1 := Bool.eq_false_iff.2 b1
        exact AtV.runN tabOk ext126c85Ok mixed (p126c85_2 v9 v10 x0 x1) ⟨b0, s0, s1, (by decide), s2, s3, s4, s5, trivial, b1, trivial⟩ (ih3 _ _ _ _ _ h w0 O q)
    · rw [if_neg b0] at h
      replace b0 := Bool.eq_false_iff.2 b0
      by_cases b1 : (Decidable.decide (v9 < (↑(List.length x0) : Int))) = true
      · rw [if_pos b1] at h
        obtain ⟨s0, s1, h⟩ := h
        subst h
        exact AtV.fin Try.func126 tabOk ext126c85Ok mixed (p126c85_3 v9 v10 x0 x1) ⟨b0, b1, s0, s1, trivial, trivial⟩
      · rw [if_neg b1] at h
        replace b1 := Bool.eq_false_iff.2 b1
        subst h
        exact AtV.fin Try.func126 tabOk ext126c85Ok mixed (p126c85_4 v9 v10 x0 x1) ⟨b0, b1, trivial⟩



def p126c85 (x0 : List (ByteArray × ByteArray × ByteArray × Unit)) (x1 : ByteArray × ByteArray × ByteArray × Unit) (h : Nat) : Bool := decide (g85_0 (x0.getD h (ByteArray.empty, ByteArray.empty, ByteArray.empty, ())) x1 < 0)
/-- Where the search comes to. -/
def k126c85 (x0 : List (ByteArray × ByteArray × ByteArray × Unit)) (x1 : ByteArray × ByteArray × ByteArray × Unit) : Nat := bsearch (p126c85 x0 x1) (x0.length + 1) 0 x0.length
def f126c85 (x0 : List (ByteArray × ByteArray × ByteArray × Unit)) (x1 : ByteArray × ByteArray × ByteArray × Unit) (k : Nat) : Bool := if k < x0.length then g85_0 (x0.getD k (ByteArray.empty, ByteArray.empty, ByteArray.empty, ())) x1 == 0 else false
def g126c85_0 (x0 : List (ByteArray × ByteArray × ByteArray × Unit)) (x1 : ByteArray × ByteArray × ByteArray × Unit) : Int := (k126c85 x0 x1 : Nat)
def g126c85_1 (x0 : List (ByteArray × ByteArray × ByteArray × Unit)) (x1 : ByteArray × ByteArray × ByteArray × Unit) : Bool := f126c85 x0 x1 (k126c85 x0 x1)
def P126c85 (x0 : List (ByteArray × ByteArray × ByteArray × Unit)) (x1 : ByteArray × ByteArray × ByteArray × Unit) : Prop := x0.length ≤ 4611686018427387903

theorem u64_iff (n : Int) : InR .u64 n ↔ 0 ≤ n ∧ n ≤ 18446744073709551615 := by
  have e1 : (IntKind.u64).min = 0 := by decide
  have e2 : (IntKind.u64).max = 18446744073709551615 := by decide
  simp only [InR, e1, e2]

theorem run126c85 (x0 : List (ByteArray × ByteArray × ByteArray × Unit)) (x1 : ByteArray × ByteArray × ByteArray × Unit) (hm : x0.length ≤ 4611686018427387903) : ∀ (k i j : Nat), j - i < k → i ≤ j → j ≤ x0.length →
    R126c85_3 k (i : Int) (j : Int) x0 x1 [⟨.int .i64, ((bsearch (p126c85 x0 x1) k i j : Nat) : Int)⟩, ⟨.bool, f126c85 x0 x1 (bsearch (p126c85 x0 x1) k i j)⟩] := by
  intro k
  induction k with
  | zero => intro i j h; omega
  | succ k ih =>
    intro i j h hij hj
    rw [R126c85_3]
    by_cases hlt : i < j
    · rw [if_pos (by simpa using hlt)]
      have e : Int.fdiv ((i : Int) + (j : Int)) 2 = (((i + j) / 2 : Nat) : Int) := by
        rw [Int.fdiv_eq_ediv_of_nonneg _ (by omega)]
        omega
      rw [e]
      simp only [Int.toNat_natCast, i64_iff, u64_iff]
      refine ⟨by omega, by omega, by omega, by omega, by omega, by omega, ?_⟩
      simp only [bsearch, if_pos hlt]
      by_cases hp : p126c85 x0 x1 ((i + j) / 2) = true
      · rw [if_pos hp, if_pos (by exact hp)]
        refine ⟨by omega, ?_⟩
        exact ih ((i + j) / 2 + 1) j (by omega) (by omega) hj
      · rw [if_neg hp, if_neg (by exact hp)]
        exact ih i ((i + j) / 2) (by omega) (by omega) (by omega)
    · rw [if_neg (by simpa using hlt)]
      simp only [bsearch, if_neg hlt, f126c85]
      by_cases hl : i < x0.length
      · rw [if_pos (by simpa using hl)]
        refine ⟨by omega, by omega, ?_⟩
        simp [hl]
      · rw [if_neg (by simpa using hl)]
        simp [hl]

def S126c85 : Am.Spec := { sig := sig126c85, pre := fun ⟨x0, x1, _⟩ => P126c85 x0 x1, res := fun ⟨x0, x1, _⟩ => [⟨Ty.int .i64, g126c85_0 x0 x1⟩, ⟨Ty.bool, g126c85_1 x0 x1⟩] }
theorem con126c85 : Contract Try.prog 126 S126c85 := contract_of Try.func126 hb126c85 (Nat.le_of_ble_eq_true (by kernel_rfl)) (fun ⟨x0, x1, _⟩ h hwf w0 O q =>
  (snd126c85 (x0.length + 1 + 1)).1 x0 x1 _ (by rw [R126c85]; exact run126c85 x0 x1 h (x0.length + 1) 0 x0.length (by omega) (by omega) (Nat.le_refl _)) w0 O q)

end Go.Proofs.Ytjkeinpcphkfbaa

/- Function 94 (impl.blockAt): its runs between cut points. Written by a program of this repo (gen). -/
set_option linter.unusedVariables false
set_option linter.unusedSimpArgs false
set_option maxRecDepth 100000
namespace Go.Proofs.Ytjkeinpcphkfbaa
open Go Go.Am Go.Proofs
def ext94 : Ext := [(126, S126c85)]
theorem call94_126 : Callable Try.prog 126 := ⟨Try.f126, Try.func126, by kernel_rfl, by kernel_rfl⟩
theorem ext94Ok : ExtOk Try.prog ext94 := ⟨⟨call94_126, con126c85⟩, trivial⟩
/-! Function 94. -/
noncomputable def b94 : Code := bodyOf Try.f94
theorem hb94 : Try.f94.body = some b94 := by kernel_rfl
def sig94 : List AT := [AT.v (Ty.sl (Ty.cons Ty.str (Ty.cons Ty.str (Ty.cons Ty.str Ty.unit)))), AT.v (Ty.cons Ty.str (Ty.cons Ty.str (Ty.cons Ty.str Ty.unit)))]
def tys94 : List Ty := [Ty.int IntKind.i64, Ty.bool]
def P94 (x0 : List (ByteArray × ByteArray × ByteArray × Unit)) (x1 : ByteArray × ByteArray × ByteArray × Unit) : Prop := ((P126c85 x0 x1) ∧ True)
def g94_0 (x0 : List (ByteArray × ByteArray × ByteArray × Unit)) (x1 : ByteArray × ByteArray × ByteArray × Unit) : Int := g126c85_0 x0 x1
def g94_1 (x0 : List (ByteArray × ByteArray × ByteArray × Unit)) (x1 : ByteArray × ByteArray × ByteArray × Unit) : Bool := g126c85_1 x0 x1
theorem p94_0 (x0 : List (ByteArray × ByteArray × ByteArray × Unit)) (x1 : ByteArray × ByteArray × ByteArray × Unit) : runF tab ext94 false 11 [] 2000 [] tys94 Try.f94.results [] [.code b94] (entE 0 0 sig94 (x0, x1, ())) (entL sig94 (x0, x1, ())) = some ([Dyn.mk (Ty.int IntKind.i64) (g126c85_0 x0 x1), Dyn.mk Ty.bool (g126c85_1 x0 x1)], [], [P126c85 x0 x1]) := by kernel_rfl
theorem at94 (x0 : List (ByteArray × ByteArray × ByteArray × Unit)) (x1 : ByteArray × ByteArray × ByteArray × Unit) (h : P94 x0 x1) (w0 : World) (O : List Nat) (q : Nat → Value) : AtV Try.prog 94 (PostR [⟨Ty.int IntKind.i64, g94_0 x0 x1⟩, ⟨Ty.bool, g94_1 x0 x1⟩] [] [] q w0 O) 11 w0 O q [] [.code b94] (entE 0 0 sig94 (x0, x1, ())) (entL sig94 (x0, x1, ())) := by
  unfold P94 at h
  unfold g94_0 g94_1
  obtain ⟨s0, h⟩ := h
  exact AtV.fin Try.func94 tabOk ext94Ok mixed (p94_0 x0 x1) ⟨s0, trivial⟩

def S94 : Am.Spec := { sig := sig94, pre := fun ⟨x0, x1, _⟩ => P94 x0 x1, res := fun ⟨x0, x1, _⟩ => [⟨Ty.int IntKind.i64, g94_0 x0 x1⟩, ⟨Ty.bool, g94_1 x0 x1⟩] }
theorem con94 : Contract Try.prog 94 S94 := contract_of Try.func94 hb94 (Nat.le_of_ble_eq_true (by kernel_rfl)) (fun ⟨x0, x1, _⟩ h _ w0 O q => at94 x0 x1 h w0 O q)


end Go.Proofs.Ytjkeinpcphkfbaa

/- Function 44 (impl.BlockNamed): its runs between cut points. Written by a program of this repo (gen). -/
set_option linter.unusedVariables false
set_option linter.unusedSimpArgs false
set_option maxRecDepth 100000
namespace Go.Proofs.Ytjkeinpcphkfbaa
open Go Go.Am Go.Proofs
def ext44 : Ext := [(37, S37), (94, S94)]
theorem call44_37 : Callable Try.prog 37 := ⟨Try.f37, Try.func37, by kernel_rfl, by kernel_rfl⟩
theorem call44_94 : Callable Try.prog 94 := ⟨Try.f94, Try.func94, by kernel_rfl, by kernel_rfl⟩
theorem ext44Ok : ExtOk Try.prog ext44 := ⟨⟨call44_37, con37⟩, ⟨call44_94, con94⟩, trivial⟩
/-! Function 44. -/
noncomputable def b44 : Code := bodyOf Try.f44
theorem hb44 : Try.f44.body = some b44 := by kernel_rfl
def sig44 : List AT := [AT.v (Ty.sl (Ty.cons Ty.str (Ty.cons Ty.str (Ty.cons Ty.str Ty.unit)))), AT.v (Ty.str), AT.v (Ty.str)]
def tys44 : List Ty := [Ty.str, Ty.int IntKind.i64]
def P44 (x0 : List (ByteArray × ByteArray × ByteArray × Unit)) (x1 : ByteArray) (x2 : ByteArray) : Prop := (if (!g37_0 x0) = true then True else ((P94 x0 (x1, x2, ByteArray.empty, ())) ∧ (if (!g94_1 x0 (x1, x2, ByteArray.empty, ())) = true then True else ((0 ≤ g94_0 x0 (x1, x2, ByteArray.empty, ())) ∧ (g94_0 x0 (x1, x2, ByteArray.empty, ()) < (↑(List.length x0) : Int)) ∧ True))))
def g44_0 (x0 : List (ByteArray × ByteArray × ByteArray × Unit)) (x1 : ByteArray) (x2 : ByteArray) : ByteArray := (if (!g37_0 x0) = true then ByteArray.mk #[] else (if (!g94_1 x0 (x1, x2, ByteArray.empty, ())) = true then ByteArray.mk #[] else Prod.fst (Prod.snd (Prod.snd (List.getD x0 (Int.toNat (g94_0 x0 (x1, x2, ByteArray.empty, ()))) (ByteArray.empty, ByteArray.empty, ByteArray.empty, ()))))))
def g44_1 (x0 : List (ByteArray × ByteArray × ByteArray × Unit)) (x1 : ByteArray) (x2 : ByteArray) : Int := (if (!g37_0 x0) = true then 1 else (if (!g94_1 x0 (x1, x2, ByteArray.empty, ())) = true then 3 else 0))
theorem p44_0 (x0 : List (ByteArray × ByteArray × ByteArray × Unit)) (x1 : ByteArray) (x2 : ByteArray) : runF tab ext44 false 28 [] 2000 [] tys44 Try.f44.results [true] [.code b44] (entE 0 0 sig44 (x0, x1, x2, ())) (entL sig44 (x0, x1, x2, ())) = some ([Dyn.mk Ty.str (ByteArray.mk #[]), Dyn.mk (Ty.int IntKind.i64) 1], [], [True, (!g37_0 x0) = Bool.true]) := by kernel_rfl
theorem p44_1 (x0 : List (ByteArray × ByteArray × ByteArray × Unit)) (x1 : ByteArray) (x2 : ByteArray) : runF tab ext44 false 28 [] 2000 [] tys44 Try.f44.results [false, true] [.code b44] (entE 0 0 sig44 (x0, x1, x2, ())) (entL sig44 (x0, x1, x2, ())) = some ([Dyn.mk Ty.str (ByteArray.mk #[]), Dyn.mk (Ty.int IntKind.i64) 3], [], [True, (!g37_0 x0) = Bool.false, P94 x0 (x1, x2, ByteArray.empty, ()), (!g94_1 x0 (x1, x2, ByteArray.empty, ())) = Bool.true]) := by kernel_rfl
theorem p44_2 (x0 : List (ByteArray × ByteArray × ByteArray × Unit)) (x1 : ByteArray) (x2 : ByteArray) : runF tab ext44 false 28 [] 2000 [] tys44 Try.f44.results [false, false] [.code b44] (entE 0 0 sig44 (x0, x1, x2, ())) (entL sig44 (x0, x1, x2, ())) = some ([Dyn.mk Ty.str (Prod.fst (Prod.snd (Prod.snd (List.getD x0 (Int.toNat (g94_0 x0 (x1, x2, ByteArray.empty, ()))) (ByteArray.empty, ByteArray.empty, ByteArray.empty, ()))))), Dyn.mk (Ty.int IntKind.i64) 0], [], [True, (!g37_0 x0) = Bool.false, P94 x0 (x1, x2, ByteArray.empty, ()), (!g94_1 x0 (x1, x2, ByteArray.empty, ())) = Bool.false, 0 ≤ g94_0 x0 (x1, x2, ByteArray.empty, ()), g94_0 x0 (x1, x2, ByteArray.empty, ()) < (↑(List.length x0) : Int)]) := by kernel_rfl
theorem at44 (x0 : List (ByteArray × ByteArray × ByteArray × Unit)) (x1 : ByteArray) (x2 : ByteArray) (h : P44 x0 x1 x2) (w0 : World) (O : List Nat) (q : Nat → Value) : AtV Try.prog 44 (PostR [⟨Ty.str, g44_0 x0 x1 x2⟩, ⟨Ty.int IntKind.i64, g44_1 x0 x1 x2⟩] [] [] q w0 O) 28 w0 O q [] [.code b44] (entE 0 0 sig44 (x0, x1, x2, ())) (entL sig44 (x0, x1, x2, ())) := by
  unfold P44 at h
  unfold g44_0 g44_1
  by_cases b0 : (!g37_0 x0) = true
  · try simp only [if_pos b0] at h ⊢
    exact AtV.fin Try.func44 tabOk ext44Ok mixed (p44_0 x0 x1 x2) ⟨trivial, b0, trivial⟩
  · try simp only [if_neg b0] at h ⊢
    replace b0 := Bool.eq_false_iff.2 b0
    obtain ⟨s0, h⟩ := h
    by_cases b1 : (!g94_1 x0 (x1, x2, ByteArray.empty, ())) = true
    · try simp only [if_pos b1] at h ⊢
      exact AtV.fin Try.func44 tabOk ext44Ok mixed (p44_1 x0 x1 x2) ⟨trivial, b0, s0, b1, trivial⟩
    · try simp only [if_neg b1] at h ⊢
      replace b1 := Bool.eq_false_iff.2 b1
      obtain ⟨s1, s2, h⟩ := h
      exact AtV.fin Try.func44 tabOk ext44Ok mixed (p44_2 x0 x1 x2) ⟨trivial, b0, s0, b1, s1, s2, trivial⟩

def S44 : Am.Spec := { sig := sig44, pre := fun ⟨x0, x1, x2, _⟩ => P44 x0 x1 x2, res := fun ⟨x0, x1, x2, _⟩ => [⟨Ty.str, g44_0 x0 x1 x2⟩, ⟨Ty.int IntKind.i64, g44_1 x0 x1 x2⟩] }
theorem con44 : Contract Try.prog 44 S44 := contract_of Try.func44 hb44 (Nat.le_of_ble_eq_true (by kernel_rfl)) (fun ⟨x0, x1, x2, _⟩ h _ w0 O q => at44 x0 x1 x2 h w0 O q)


end Go.Proofs.Ytjkeinpcphkfbaa

/- Function 86 (laws.eqBlock): its runs between cut points. Written by a program of this repo (gen). -/
set_option linter.unusedVariables false
set_option linter.unusedSimpArgs false
set_option maxRecDepth 100000
namespace Go.Proofs.Ytjkeinpcphkfbaa
open Go Go.Am Go.Proofs
def ext86 : Ext := []
theorem ext86Ok : ExtOk Try.prog ext86 := trivial
/-! Function 86. -/
noncomputable def b86 : Code := bodyOf Try.f86
theorem hb86 : Try.f86.body = some b86 := by kernel_rfl
def sig86 : List AT := [AT.v (Ty.cons Ty.str (Ty.cons Ty.str (Ty.cons Ty.str Ty.unit))), AT.v (Ty.cons Ty.str (Ty.cons Ty.str (Ty.cons Ty.str Ty.unit)))]
def tys86 : List Ty := [Ty.bool]
def P86 (x0 : ByteArray × ByteArray × ByteArray × Unit) (x1 : ByteArray × ByteArray × ByteArray × Unit) : Prop := True
def g86_0 (x0 : ByteArray × ByteArray × ByteArray × Unit) (x1 : ByteArray × ByteArray × ByteArray × Unit) : Bool := (if (!ByteArray.toList (Prod.fst x0) == ByteArray.toList (Prod.fst x1)) = true then Bool.false else (if (!ByteArray.toList (Prod.fst (Prod.snd x0)) == ByteArray.toList (Prod.fst (Prod.snd x1))) = true then Bool.false else (if (!ByteArray.toList (Prod.fst (Prod.snd (Prod.snd x0))) == ByteArray.toList (Prod.fst (Prod.snd (Prod.snd x1)))) = true then Bool.false else Bool.true)))
theorem p86_0 (x0 : ByteArray × ByteArray × ByteArray × Unit) (x1 : ByteArray × ByteArray × ByteArray × Unit) : runF tab ext86 false 20 [] 2000 [] tys86 Try.f86.results [true] [.code b86] (entE 0 0 sig86 (x0, x1, ())) (entL sig86 (x0, x1, ())) = some ([Dyn.mk Ty.bool Bool.false], [], [(!ByteArray.toList (Prod.fst x0) == ByteArray.toList (Prod.fst x1)) = Bool.true]) := by kernel_rfl
theorem p86_1 (x0 : ByteArray × ByteArray × ByteArray × Unit) (x1 : ByteArray × ByteArray × ByteArray × Unit) : runF tab ext86 false 20 [] 2000 [] tys86 Try.f86.results [false, true] [.code b86] (entE 0 0 sig86 (x0, x1, ())) (entL sig86 (x0, x1, ())) = some ([Dyn.mk Ty.bool Bool.false], [], [(!ByteArray.toList (Prod.fst x0) == ByteArray.toList (Prod.fst x1)) = Bool.false, (!ByteArray.toList (Prod.fst (Prod.snd x0)) == ByteArray.toList (Prod.fst (Prod.snd x1))) = Bool.true]) := by kernel_rfl
theorem p86_2 (x0 : ByteArray × ByteArray × ByteArray × Unit) (x1 : ByteArray × ByteArray × ByteArray × Unit) : runF tab ext86 false 20 [] 2000 [] tys86 Try.f86.results [false, false, true] [.code b86] (entE 0 0 sig86 (x0, x1, ())) (entL sig86 (x0, x1, ())) = some ([Dyn.mk Ty.bool Bool.false], [], [(!ByteArray.toList (Prod.fst x0) == ByteArray.toList (Prod.fst x1)) = Bool.false, (!ByteArray.toList (Prod.fst (Prod.snd x0)) == ByteArray.toList (Prod.fst (Prod.snd x1))) = Bool.false, (!ByteArray.toList (Prod.fst (Prod.snd (Prod.snd x0))) == ByteArray.toList (Prod.fst (Prod.snd (Prod.snd x1)))) = Bool.true]) := by kernel_rfl
theorem p86_3 (x0 : ByteArray × ByteArray × ByteArray × Unit) (x1 : ByteArray × ByteArray × ByteArray × Unit) : runF tab ext86 false 20 [] 2000 [] tys86 Try.f86.results [false, false, false] [.code b86] (entE 0 0 sig86 (x0, x1, ())) (entL sig86 (x0, x1, ())) = some ([Dyn.mk Ty.bool Bool.true], [], [(!ByteArray.toList (Prod.fst x0) == ByteArray.toList (Prod.fst x1)) = Bool.false, (!ByteArray.toList (Prod.fst (Prod.snd x0)) == ByteArray.toList (Prod.fst (Prod.snd x1))) = Bool.false, (!ByteArray.toList (Prod.fst (Prod.snd (Prod.snd x0))) == ByteArray.toList (Prod.fst (Prod.snd (Prod.snd x1)))) = Bool.false]) := by kernel_rfl
theorem at86 (x0 : ByteArray × ByteArray × ByteArray × Unit) (x1 : ByteArray × ByteArray × ByteArray × Unit) (h : P86 x0 x1) (w0 : World) (O : List Nat) (q : Nat → Value) : AtV Try.prog 86 (PostR [⟨Ty.bool, g86_0 x0 x1⟩] [] [] q w0 O) 20 w0 O q [] [.code b86] (entE 0 0 sig86 (x0, x1, ())) (entL sig86 (x0, x1, ())) := by
  unfold P86 at h
  unfold g86_0
  by_cases b0 : (!ByteArray.toList (Prod.fst x0) == ByteArray.toList (Prod.fst x1)) = true
  · try simp only [if_pos b0] at h ⊢
    exact AtV.fin Try.func86 tabOk ext86Ok mixed (p86_0 x0 x1) ⟨b0, trivial⟩
  · try simp only [if_neg b0] at h ⊢
    replace b0 := Bool.eq_false_iff.2 b0
    by_cases b1 : (!ByteArray.toList (Prod.fst (Prod.snd x0)) == ByteArray.toList (Prod.fst (Prod.snd x1))) = true
    · try simp only [if_pos b1] at h ⊢
      exact AtV.fin Try.func86 tabOk ext86Ok mixed (p86_1 x0 x1) ⟨b0, b1, trivial⟩
    · try simp only [if_neg b1] at h ⊢
      replace b1 := Bool.eq_false_iff.2 b1
      by_cases b2 : (!ByteArray.toList (Prod.fst (Prod.snd (Prod.snd x0))) == ByteArray.toList (Prod.fst (Prod.snd (Prod.snd x1)))) = true
      · try simp only [if_pos b2] at h ⊢
        exact AtV.fin Try.func86 tabOk ext86Ok mixed (p86_2 x0 x1) ⟨b0, b1, b2, trivial⟩
      · try simp only [if_neg b2] at h ⊢
        replace b2 := Bool.eq_false_iff.2 b2
        exact AtV.fin Try.func86 tabOk ext86Ok mixed (p86_3 x0 x1) ⟨b0, b1, b2, trivial⟩

def S86 : Am.Spec := { sig := sig86, pre := fun ⟨x0, x1, _⟩ => P86 x0 x1, res := fun ⟨x0, x1, _⟩ => [⟨Ty.bool, g86_0 x0 x1⟩] }
theorem con86 : Contract Try.prog 86 S86 := contract_of Try.func86 hb86 (Nat.le_of_ble_eq_true (by kernel_rfl)) (fun ⟨x0, x1, _⟩ h _ w0 O q => at86 x0 x1 h w0 O q)


theorem eqd86 (x y : ByteArray × ByteArray × ByteArray × Unit) : g86_0 x y = true ↔ x = y := by
  obtain ⟨a, b, c, u⟩ := x
  obtain ⟨a', b', c', u'⟩ := y
  unfold g86_0
  simp only [Bool.not_eq_true', bytes_ne]
  by_cases h1 : a = a'
  · by_cases h2 : b = b'
    · by_cases h3 : c = c'
      · simp [h1, h2, h3]
      · simp [h1, h2, h3]
    · simp [h1, h2]
  · simp [h1]

end Go.Proofs.Ytjkeinpcphkfbaa

/- Function 38 (laws.eqBlockS): its runs between cut points. Written by a program of this repo (gen). -/
set_option linter.unusedVariables false
set_option linter.unusedSimpArgs false
set_option maxRecDepth 100000
namespace Go.Proofs.Ytjkeinpcphkfbaa
open Go Go.Am Go.Proofs
def ext38 : Ext := [(86, S86)]
theorem call38_86 : Callable Try.prog 86 := ⟨Try.f86, Try.func86, by kernel_rfl, by kernel_rfl⟩
theorem ext38Ok : ExtOk Try.prog ext38 := ⟨⟨call38_86, con86⟩, trivial⟩
/-! Function 38. -/
noncomputable def b38 : Code := bodyOf Try.f38
theorem hb38 : Try.f38.body = some b38 := by kernel_rfl
def sig38 : List AT := [AT.v (Ty.sl (Ty.cons Ty.str (Ty.cons Ty.str (Ty.cons Ty.str Ty.unit)))), AT.v (Ty.sl (Ty.cons Ty.str (Ty.cons Ty.str (Ty.cons Ty.str Ty.unit))))]
def tys38 : List Ty := [Ty.bool]
def E38_4 (v5 : Int) (x0 : List (ByteArray × ByteArray × ByteArray × Unit)) (x1 : List (ByteArray × ByteArray × ByteArray × Unit)) : Env := [(0, PV.a (Atom.sl (Ty.cons Ty.str (Ty.cons Ty.str (Ty.cons Ty.str Ty.unit))) x0)), (1, PV.a (Atom.sl (Ty.cons Ty.str (Ty.cons Ty.str (Ty.cons Ty.str Ty.unit))) x1)), (5, PV.a (Atom.val (Value.int IntKind.i64 v5)))]
def L38_4 (v5 : Int) (x0 : List (ByteArray × ByteArray × ByteArray × Unit)) (x1 : List (ByteArray × ByteArray × ByteArray × Unit)) : Heap := []
mutual
def R38 : Nat → List (ByteArray × ByteArray × ByteArray × Unit) → List (ByteArray × ByteArray × ByteArray × Unit) → List Dyn → Prop
  | 0, _, _, _ => False
  | n + 1, x0, x1, ds => (if ((↑(List.length x0) : Int) != (↑(List.length x1) : Int)) = true then (ds = [Dyn.mk Ty.bool Bool.false]) else (R38_4 n (0) (x0) (x1) ds))
def R38_4 : Nat → Int → List (ByteArray × ByteArray × ByteArray × Unit) → List (ByteArray × ByteArray × ByteArray × Unit) → List Dyn → Prop
  | 0, _, _, _, _ => False
  | n + 1, v5, x0, x1, ds => (if (Decidable.decide (v5 < (↑(List.length x0) : Int))) = true then ((0 ≤ v5) ∧ (v5 < (↑(List.length x0) : Int)) ∧ ((0 ≤ v5) ∧ (v5 < (↑(List.length x1) : Int)) ∧ (if (!g86_0 (List.getD x0 (Int.toNat v5) (ByteArray.empty, ByteArray.empty, ByteArray.empty, ())) (List.getD x1 (Int.toNat v5) (ByteArray.empty, ByteArray.empty, ByteArray.empty, ()))) = true then (ds = [Dyn.mk Ty.bool Bool.false]) else ((InR IntKind.i64 (v5 + 1)) ∧ (R38_4 n (v5 + 1) (x0) (x1) ds))))) else (ds = [Dyn.mk Ty.bool Bool.true]))
end
theorem p38_0 (x0 : List (ByteArray × ByteArray × ByteArray × Unit)) (x1 : List (ByteArray × ByteArray × ByteArray × Unit)) : runF tab ext38 false 27 [] 2000 [] tys38 Try.f38.results [true] [.code b38] (entE 0 0 sig38 (x0, x1, ())) (entL sig38 (x0, x1, ())) = some ([Dyn.mk Ty.bool Bool.false], [], [((↑(List.length x0) : Int) != (↑(List.length x1) : Int)) = Bool.true]) := by kernel_rfl
theorem p38_1 (x0 : List (ByteArray × ByteArray × ByteArray × Unit)) (x1 : List (ByteArray × ByteArray × ByteArray × Unit)) : Am.runN tab ext38 false 27 [] 2000 [] [] [0, 1, 5] [] [false] [.code b38] (entE 0 0 sig38 (x0, x1, ())) (entL sig38 (x0, x1, ())) = some (cutAt b38 4, E38_4 (0) (x0) (x1), L38_4 (0) (x0) (x1), [((↑(List.length x0) : Int) != (↑(List.length x1) : Int)) = Bool.false]) := by kernel_rfl
theorem p38_2 (v5 : Int) (x0 : List (ByteArray × ByteArray × ByteArray × Unit)) (x1 : List (ByteArray × ByteArray × ByteArray × Unit)) : runF tab ext38 false 27 [] 2000 [] tys38 Try.f38.results [true, true] (cutAt b38 4) (E38_4 v5 x0 x1) (L38_4 v5 x0 x1) = some ([Dyn.mk Ty.bool Bool.false], [], [Decidable.decide (v5 < (↑(List.length x0) : Int)) = Bool.true, 0 ≤ v5, v5 < (↑(List.length x0) : Int), 0 ≤ v5, v5 < (↑(List.length x1) : Int), True, (!g86_0 (List.getD x0 (Int.toNat v5) (ByteArray.empty, ByteArray.empty, ByteArray.empty, ())) (List.getD x1 (Int.toNat v5) (ByteArray.empty, ByteArray.empty, ByteArray.empty, ()))) = Bool.true]) := by kernel_rfl
theorem p38_3 (v5 : Int) (x0 : List (ByteArray × ByteArray × ByteArray × Unit)) (x1 : List (ByteArray × ByteArray × ByteArray × Unit)) : Am.runN tab ext38 false 27 [] 2000 [] [] [0, 1, 5] [] [true, false] (cutAt b38 4) (E38_4 v5 x0 x1) (L38_4 v5 x0 x1) = some (cutAt b38 4, E38_4 (v5 + 1) (x0) (x1), L38_4 (v5 + 1) (x0) (x1), [Decidable.decide (v5 < (↑(List.length x0) : Int)) = Bool.true, 0 ≤ v5, v5 < (↑(List.length x0) : Int), 0 ≤ v5, v5 < (↑(List.length x1) : Int), True, (!g86_0 (List.getD x0 (Int.toNat v5) (ByteArray.empty, ByteArray.empty, ByteArray.empty, ())) (List.getD x1 (Int.toNat v5) (ByteArray.empty, ByteArray.empty, ByteArray.empty, ()))) = Bool.false, InR IntKind.i64 (v5 + 1)]) := by kernel_rfl
theorem p38_4 (v5 : Int) (x0 : List (ByteArray × ByteArray × ByteArray × Unit)) (x1 : List (ByteArray × ByteArray × ByteArray × Unit)) : runF tab ext38 false 27 [] 2000 [] tys38 Try.f38.results [false] (cutAt b38 4) (E38_4 v5 x0 x1) (L38_4 v5 x0 x1) = some ([Dyn.mk Ty.bool Bool.true], [], [Decidable.decide (v5 < (↑(List.length x0) : Int)) = Bool.false]) := by kernel_rfl
theorem snd38 : ∀ n, (∀ (x0 : List (ByteArray × ByteArray × ByteArray × Unit)) (x1 : List (ByteArray × ByteArray × ByteArray × Unit)) ds, R38 n x0 x1 ds → ∀ w0 O q, AtV Try.prog 38 (PostR ds [] [] q w0 O) 27 w0 O q [] [.code b38] (entE 0 0 sig38 (x0, x1, ())) (entL sig38 (x0, x1, ()))) ∧ (∀ (v5 : Int) (x0 : List (ByteArray × ByteArray × ByteArray × Unit)) (x1 : List (ByteArray × ByteArray × ByteArray × Unit)) ds, R38_4 n v5 x0 x1 ds → ∀ w0 O q, AtV Try.prog 38 (PostR ds [] [] q w0 O) 27 w0 O q [] (cutAt b38 4) (E38_4 v5 x0 x1) (L38_4 v5 x0 x1)) := by
  intro n
  induction n with
  | zero => exact ⟨fun _ _ _ h => by simp only [R38] at h, fun _ _ _ _ h => by simp only [R38_4] at h⟩
  | succ n ih =>
  obtain ⟨ih, ih4⟩ := ih
  refine ⟨?_, ?_⟩
  · intro x0 x1 ds h w0 O q
    rw [R38] at h
    by_cases b0 : ((↑(List.length x0) : Int) != (↑(List.length x1) : Int)) = true
    · rw [if_pos b0] at h
      subst h
      exact AtV.fin Try.func38 tabOk ext38Ok mixed (p38_0 x0 x1) ⟨b0, trivial⟩
    · rw [if_neg b0] at h
      replace b0 := Bool.eq_false_iff.2 b0
      exact AtV.runN tabOk ext38Ok mixed (p38_1 x0 x1) ⟨b0, trivial⟩ (ih4 _ _ _ _ h w0 O q)

  · intro v5 x0 x1 ds h w0 O q
    rw [R38_4] at h
    by_cases b0 : (Decidable.decide (v5 < (↑(List.length x0) : Int))) = true
    · rw [if_pos b0] at h
      obtain ⟨s0, s1, h⟩ := h
      obtain ⟨s2, s3, h⟩ := h
      by_cases b1 : (!g86_0 (List.getD x0 (Int.toNat v5) (ByteArray.empty, ByteArray.empty, ByteArray.empty, ())) (List.getD x1 (Int.toNat v5) (ByteArray.empty, ByteArray.empty, ByteArray.empty, ()))) = true
      · rw [if_pos b1] at h
        subst h
        exact AtV.fin Try.func38 tabOk ext38Ok mixed (p38_2 v5 x0 x1) ⟨b0, s0, s1, s2, s3, trivial, b1, trivial⟩
      · rw [if_neg b1] at h
        replace b1 := Bool.eq_false_iff.2 b1
        obtain ⟨s4, h⟩ := h
        exact AtV.runN tabOk ext38Ok mixed (p38_3 v5 x0 x1) ⟨b0, s0, s1, s2, s3, trivial, b1, s4, trivial⟩ (ih4 _ _ _ _ h w0 O q)
    · rw [if_neg b0] at h
      replace b0 := Bool.eq_false_iff.2 b0
      subst h
      exact AtV.fin Try.func38 tabOk ext38Ok mixed (p38_4 v5 x0 x1) ⟨b0, trivial⟩



theorem eq38 (x0 x1 : List (ByteArray × ByteArray × ByteArray × Unit)) (hl : x0.length = x1.length) (hm : x0.length ≤ maxLen) : ∀ k i : Nat, i + k = x0.length → R38_4 (k + 1) (i : Int) x0 x1 [⟨.bool, decide (x0.drop i = x1.drop i)⟩] := by
  intro k
  induction k with
  | zero =>
    intro i hi
    have h1 : ¬ (i : Int) < (x0.length : Int) := by omega
    rw [R38_4, if_neg (by simpa using h1), drop_end x0 i (by omega), drop_end x1 i (by omega)]
    simp
  | succ k ih =>
    intro i hi
    have h1 : (i : Int) < (x0.length : Int) := by omega
    rw [R38_4, if_pos (by simpa using h1)]
    refine ⟨by omega, h1, by omega, by omega, ?_⟩
    simp only [Int.toNat_natCast]
    rw [drop_get x0 i (ByteArray.empty, ByteArray.empty, ByteArray.empty, ()) (by omega), drop_get x1 i (ByteArray.empty, ByteArray.empty, ByteArray.empty, ()) (by omega)]
    by_cases he : x0.getD i (ByteArray.empty, ByteArray.empty, ByteArray.empty, ()) = x1.getD i (ByteArray.empty, ByteArray.empty, ByteArray.empty, ())
    · have hd := (eqd86 _ _).2 he
      rw [if_neg (by rw [hd]; simp)]
      refine ⟨inR_up hm (by omega), ?_⟩
      have := ih (i + 1) (by omega)
      simp only [he, List.cons.injEq, true_and]
      exact this
    · have hd : g86_0 (x0.getD i (ByteArray.empty, ByteArray.empty, ByteArray.empty, ())) (x1.getD i (ByteArray.empty, ByteArray.empty, ByteArray.empty, ())) = false :=
        Bool.eq_false_iff.2 fun h => he ((eqd86 _ _).1 h)
      rw [if_pos (by rw [hd]; rfl)]
      simp only [he, List.cons.injEq, false_and, decide_false]

def g38_0 (x0 x1 : List (ByteArray × ByteArray × ByteArray × Unit)) : Bool := decide (x0 = x1)
def P38 (x0 x1 : List (ByteArray × ByteArray × ByteArray × Unit)) : Prop := True
def S38 : Am.Spec := { sig := sig38, pre := fun ⟨x0, x1, _⟩ => P38 x0 x1, res := fun ⟨x0, x1, _⟩ => [⟨Ty.bool, g38_0 x0 x1⟩] }
theorem con38 : Contract Try.prog 38 S38 := contract_of Try.func38 hb38 (Nat.le_of_ble_eq_true (by kernel_rfl)) (fun ⟨x0, x1, _⟩ h hwf w0 O q => by
  refine (snd38 (x0.length + 2)).1 x0 x1 _ ?_ w0 O q
  show R38 (x0.length + 1 + 1) x0 x1 [⟨Ty.bool, decide (x0 = x1)⟩]
  rw [R38]
  by_cases hl : x0.length = x1.length
  · rw [if_neg (by simp [hl])]
    have := eq38 x0 x1 hl hwf.1.1 x0.length 0 (by omega)
    simpa using this
  · rw [if_pos (by simp; omega)]
    have : x0 ≠ x1 := fun h => hl (by rw [h])
    simp [this])

end Go.Proofs.Ytjkeinpcphkfbaa

/- Function 8 (laws.FnExactBlockNamed): its runs between cut points. Written by a program of this repo (gen). -/
set_option linter.unusedVariables false
set_option linter.unusedSimpArgs false
set_option maxRecDepth 100000
namespace Go.Proofs.Ytjkeinpcphkfbaa
open Go Go.Am Go.Proofs
def ext8 : Ext := [(34, S34), (36, S36), (43, S43), (44, S44), (38, S38)]
theorem call8_34 : Callable Try.prog 34 := ⟨Try.f34, Try.func34, by kernel_rfl, by kernel_rfl⟩
theorem call8_36 : Callable Try.prog 36 := ⟨Try.f36, Try.func36, by kernel_rfl, by kernel_rfl⟩
theorem call8_43 : Callable Try.prog 43 := ⟨Try.f43, Try.func43, by kernel_rfl, by kernel_rfl⟩
theorem call8_44 : Callable Try.prog 44 := ⟨Try.f44, Try.func44, by kernel_rfl, by kernel_rfl⟩
theorem call8_38 : Callable Try.prog 38 := ⟨Try.f38, Try.func38, by kernel_rfl, by kernel_rfl⟩
theorem ext8Ok : ExtOk Try.prog ext8 := ⟨⟨call8_34, con34⟩, ⟨call8_36, con36⟩, ⟨call8_43, con43⟩, ⟨call8_44, con44⟩, ⟨call8_38, con38⟩, trivial⟩
/-! Function 8. -/
noncomputable def b8 : Code := bodyOf Try.f8
theorem hb8 : Try.f8.body = some b8 := by kernel_rfl
def sig8 : List AT := [AT.v (Ty.sl (Ty.cons Ty.str (Ty.cons Ty.str (Ty.cons Ty.str Ty.unit)))), AT.v (Ty.str), AT.v (Ty.str)]
def tys8 : List Ty := [Ty.bool]
def P8 (x0 : List (ByteArray × ByteArray × ByteArray × Unit)) (x1 : ByteArray) (x2 : ByteArray) : Prop := (if (Decidable.decide ((↑(ByteArray.size x1) : Int) > 1048576)) = true then True else (if (Decidable.decide ((↑(ByteArray.size x2) : Int) > 1048576)) = true then True else ((P34 x0 1048576) ∧ (if (Decidable.decide (g34_0 x0 1048576 < 0)) = true then True else ((P36 x0) ∧ ((P43 (g36_0 x0) x1 x2) ∧ ((P36 x0) ∧ ((P44 (g36_0 x0) x1 x2) ∧ (if (!ByteArray.toList (g44_0 (g36_0 x0) x1 x2) == ByteArray.toList (g43_0 (g36_0 x0) x1 x2)) = true then True else (if (g44_1 (g36_0 x0) x1 x2 != g43_1 (g36_0 x0) x1 x2) = true then True else ((P36 x0) ∧ True)))))))))))
def g8_0 (x0 : List (ByteArray × ByteArray × ByteArray × Unit)) (x1 : ByteArray) (x2 : ByteArray) : Bool := (if (Decidable.decide ((↑(ByteArray.size x1) : Int) > 1048576)) = true then Bool.true else (if (Decidable.decide ((↑(ByteArray.size x2) : Int) > 1048576)) = true then Bool.true else (if (Decidable.decide (g34_0 x0 1048576 < 0)) = true then Bool.true else (if (!ByteArray.toList (g44_0 (g36_0 x0) x1 x2) == ByteArray.toList (g43_0 (g36_0 x0) x1 x2)) = true then Bool.false else (if (g44_1 (g36_0 x0) x1 x2 != g43_1 (g36_0 x0) x1 x2) = true then Bool.false else (if (!g38_0 (g36_0 x0) (g36_0 x0)) = true then Bool.false else Bool.true))))))
theorem p8_0 (x0 : List (ByteArray × ByteArray × ByteArray × Unit)) (x1 : ByteArray) (x2 : ByteArray) : runF tab ext8 false 54 [] 2000 [] tys8 Try.f8.results [true] [.code b8] (entE 0 0 sig8 (x0, x1, x2, ())) (entL sig8 (x0, x1, x2, ())) = some ([Dyn.mk Ty.bool Bool.true], [], [Decidable.decide ((↑(ByteArray.size x1) : Int) > 1048576) = Bool.true]) := by kernel_rfl
theorem p8_1 (x0 : List (ByteArray × ByteArray × ByteArray × Unit)) (x1 : ByteArray) (x2 : ByteArray) : runF tab ext8 false 54 [] 2000 [] tys8 Try.f8.results [false, true] [.code b8] (entE 0 0 sig8 (x0, x1, x2, ())) (entL sig8 (x0, x1, x2, ())) = some ([Dyn.mk Ty.bool Bool.true], [], [Decidable.decide ((↑(ByteArray.size x1) : Int) > 1048576) = Bool.false, Decidable.decide ((↑(ByteArray.size x2) : Int) > 1048576) = Bool.true]) := by kernel_rfl
theorem p8_2 (x0 : List (ByteArray × ByteArray × ByteArray × Unit)) (x1 : ByteArray) (x2 : ByteArray) : runF tab ext8 false 54 [] 2000 [] tys8 Try.f8.results [false, false, true] [.code b8] (entE 0 0 sig8 (x0, x1, x2, ())) (entL sig8 (x0, x1, x2, ())) = some ([Dyn.mk Ty.bool Bool.true], [], [Decidable.decide ((↑(ByteArray.size x1) : Int) > 1048576) = Bool.false, Decidable.decide ((↑(ByteArray.size x2) : Int) > 1048576) = Bool.false, P34 x0 1048576, Decidable.decide (g34_0 x0 1048576 < 0) = Bool.true]) := by kernel_rfl
theorem p8_3 (x0 : List (ByteArray × ByteArray × ByteArray × Unit)) (x1 : ByteArray) (x2 : ByteArray) : runF tab ext8 false 54 [] 2000 [] tys8 Try.f8.results [false, false, false, true, true] [.code b8] (entE 0 0 sig8 (x0, x1, x2, ())) (entL sig8 (x0, x1, x2, ())) = some ([Dyn.mk Ty.bool Bool.false], [], [Decidable.decide ((↑(ByteArray.size x1) : Int) > 1048576) = Bool.false, Decidable.decide ((↑(ByteArray.size x2) : Int) > 1048576) = Bool.false, P34 x0 1048576, Decidable.decide (g34_0 x0 1048576 < 0) = Bool.false, P36 x0, P43 (g36_0 x0) x1 x2, P36 x0, P44 (g36_0 x0) x1 x2, (!ByteArray.toList (g44_0 (g36_0 x0) x1 x2) == ByteArray.toList (g43_0 (g36_0 x0) x1 x2)) = Bool.true, Bool.true = Bool.true]) := by kernel_rfl
theorem p8_4 (x0 : List (ByteArray × ByteArray × ByteArray × Unit)) (x1 : ByteArray) (x2 : ByteArray) : runF tab ext8 false 54 [] 2000 [] tys8 Try.f8.results [false, false, false, false, true] [.code b8] (entE 0 0 sig8 (x0, x1, x2, ())) (entL sig8 (x0, x1, x2, ())) = some ([Dyn.mk Ty.bool Bool.false], [], [Decidable.decide ((↑(ByteArray.size x1) : Int) > 1048576) = Bool.false, Decidable.decide ((↑(ByteArray.size x2) : Int) > 1048576) = Bool.false, P34 x0 1048576, Decidable.decide (g34_0 x0 1048576 < 0) = Bool.false, P36 x0, P43 (g36_0 x0) x1 x2, P36 x0, P44 (g36_0 x0) x1 x2, (!ByteArray.toList (g44_0 (g36_0 x0) x1 x2) == ByteArray.toList (g43_0 (g36_0 x0) x1 x2)) = Bool.false, (g44_1 (g36_0 x0) x1 x2 != g43_1 (g36_0 x0) x1 x2) = Bool.true]) := by kernel_rfl
theorem p8_5 (x0 : List (ByteArray × ByteArray × ByteArray × Unit)) (x1 : ByteArray) (x2 : ByteArray) : runF tab ext8 false 54 [] 2000 [] tys8 Try.f8.results [false, false, false, false, false, true] [.code b8] (entE 0 0 sig8 (x0, x1, x2, ())) (entL sig8 (x0, x1, x2, ())) = some ([Dyn.mk Ty.bool Bool.false], [], [Decidable.decide ((↑(ByteArray.size x1) : Int) > 1048576) = Bool.false, Decidable.decide ((↑(ByteArray.size x2) : Int) > 1048576) = Bool.false, P34 x0 1048576, Decidable.decide (g34_0 x0 1048576 < 0) = Bool.false, P36 x0, P43 (g36_0 x0) x1 x2, P36 x0, P44 (g36_0 x0) x1 x2, (!ByteArray.toList (g44_0 (g36_0 x0) x1 x2) == ByteArray.toList (g43_0 (g36_0 x0) x1 x2)) = Bool.false, (g44_1 (g36_0 x0) x1 x2 != g43_1 (g36_0 x0) x1 x2) = Bool.false, P36 x0, True, (!g38_0 (g36_0 x0) (g36_0 x0)) = Bool.true]) := by kernel_rfl
theorem p8_6 (x0 : List (ByteArray × ByteArray × ByteArray × Unit)) (x1 : ByteArray) (x2 : ByteArray) : runF tab ext8 false 54 [] 2000 [] tys8 Try.f8.results [false, false, false, false, false, false] [.code b8] (entE 0 0 sig8 (x0, x1, x2, ())) (entL sig8 (x0, x1, x2, ())) = some ([Dyn.mk Ty.bool Bool.true], [], [Decidable.decide ((↑(ByteArray.size x1) : Int) > 1048576) = Bool.false, Decidable.decide ((↑(ByteArray.size x2) : Int) > 1048576) = Bool.false, P34 x0 1048576, Decidable.decide (g34_0 x0 1048576 < 0) = Bool.false, P36 x0, P43 (g36_0 x0) x1 x2, P36 x0, P44 (g36_0 x0) x1 x2, (!ByteArray.toList (g44_0 (g36_0 x0) x1 x2) == ByteArray.toList (g43_0 (g36_0 x0) x1 x2)) = Bool.false, (g44_1 (g36_0 x0) x1 x2 != g43_1 (g36_0 x0) x1 x2) = Bool.false, P36 x0, True, (!g38_0 (g36_0 x0) (g36_0 x0)) = Bool.false]) := by kernel_rfl
theorem at8 (x0 : List (ByteArray × ByteArray × ByteArray × Unit)) (x1 : ByteArray) (x2 : ByteArray) (h : P8 x0 x1 x2) (w0 : World) (O : List Nat) (q : Nat → Value) : AtV Try.prog 8 (PostR [⟨Ty.bool, g8_0 x0 x1 x2⟩] [] [] q w0 O) 54 w0 O q [] [.code b8] (entE 0 0 sig8 (x0, x1, x2, ())) (entL sig8 (x0, x1, x2, ())) := by
  unfold P8 at h
  unfold g8_0
  by_cases b0 : (Decidable.decide ((↑(ByteArray.size x1) : Int) > 1048576)) = true
  · try simp only [if_pos b0] at h ⊢
    exact AtV.fin Try.func8 tabOk ext8Ok mixed (p8_0 x0 x1 x2) ⟨b0, trivial⟩
  · try simp only [if_neg b0] at h ⊢
    replace b0 := Bool.eq_false_iff.2 b0
    by_cases b1 : (Decidable.decide ((↑(ByteArray.size x2) : Int) > 1048576)) = true
    · try simp only [if_pos b1] at h ⊢
      exact AtV.fin Try.func8 tabOk ext8Ok mixed (p8_1 x0 x1 x2) ⟨b0, b1, trivial⟩
    · try simp only [if_neg b1] at h ⊢
      replace b1 := Bool.eq_false_iff.2 b1
      obtain ⟨s0, h⟩ := h
      by_cases b2 : (Decidable.decide (g34_0 x0 1048576 < 0)) = true
      · try simp only [if_pos b2] at h ⊢
        exact AtV.fin Try.func8 tabOk ext8Ok mixed (p8_2 x0 x1 x2) ⟨b0, b1, s0, b2, trivial⟩
      · try simp only [if_neg b2] at h ⊢
        replace b2 := Bool.eq_false_iff.2 b2
        obtain ⟨s1, h⟩ := h
        obtain ⟨s2, h⟩ := h
        obtain ⟨s3, h⟩ := h
        obtain ⟨s4, h⟩ := h
        by_cases b3 : (!ByteArray.toList (g44_0 (g36_0 x0) x1 x2) == ByteArray.toList (g43_0 (g36_0 x0) x1 x2)) = true
        · try simp only [if_pos b3] at h ⊢
          exact AtV.fin Try.func8 tabOk ext8Ok mixed (p8_3 x0 x1 x2) ⟨b0, b1, s0, b2, s1, s2, s3, s4, b3, rfl, trivial⟩
        · try simp only [if_neg b3] at h ⊢
          replace b3 := Bool.eq_false_iff.2 b3
          by_cases b4 : (g44_1 (g36_0 x0) x1 x2 != g43_1 (g36_0 x0) x1 x2) = true
          · try simp only [if_pos b4] at h ⊢
            exact AtV.fin Try.func8 tabOk ext8Ok mixed (p8_4 x0 x1 x2) ⟨b0, b1, s0, b2, s1, s2, s3, s4, b3, b4, trivial⟩
          · try simp only [if_neg b4] at h ⊢
            replace b4 := Bool.eq_false_iff.2 b4
            obtain ⟨s5, h⟩ := h
            by_cases b5 : (!g38_0 (g36_0 x0) (g36_0 x0)) = true
            · try simp only [if_pos b5] at h ⊢
              exact AtV.fin Try.func8 tabOk ext8Ok mixed (p8_5 x0 x1 x2) ⟨b0, b1, s0, b2, s1, s2, s3, s4, b3, b4, s5, trivial, b5, trivial⟩
            · try simp only [if_neg b5] at h ⊢
              replace b5 := Bool.eq_false_iff.2 b5
              exact AtV.fin Try.func8 tabOk ext8Ok mixed (p8_6 x0 x1 x2) ⟨b0, b1, s0, b2, s1, s2, s3, s4, b3, b4, s5, trivial, b5, trivial⟩

def S8 : Am.Spec := { sig := sig8, pre := fun ⟨x0, x1, x2, _⟩ => P8 x0 x1 x2, res := fun ⟨x0, x1, x2, _⟩ => [⟨Ty.bool, g8_0 x0 x1 x2⟩] }
theorem con8 : Contract Try.prog 8 S8 := contract_of Try.func8 hb8 (Nat.le_of_ble_eq_true (by kernel_rfl)) (fun ⟨x0, x1, x2, _⟩ h _ w0 O q => at8 x0 x1 x2 h w0 O q)


end Go.Proofs.Ytjkeinpcphkfbaa

/- A law that says how functions of the program and of the specification hang together. -/
set_option linter.unusedVariables false
set_option linter.unusedSimpArgs false
set_option maxRecDepth 100000
namespace Go.Proofs.Ytjkeinpcphkfbaa
open Go Go.Am Go.Proofs

theorem name_eq (s : ByteArray) : g116_0 s = g131_0 s := by
  have hs : ∀ c, g153_0 c = (decide (97 ≤ c) && decide (c ≤ 122)) := fun c => by
    unfold g153_0
    by_cases h1 : (97 : Int) ≤ c <;> simp [h1]
  have hd : ∀ c, g154_0 c = (decide (48 ≤ c) && decide (c ≤ 57)) := fun c => by
    unfold g154_0
    by_cases h1 : (48 : Int) ≤ c <;> simp [h1]
  unfold g116_0 g131_0
  have hl := bytesOf_length s
  by_cases h1 : 1 ≤ s.size
  · cases hb : bytesOf s with
    | nil => rw [hb] at hl; simp at hl; omega
    | cons c r =>
      have hr : allI ok116 1 r = r.all fun b => g153_0 b || g154_0 b := by
        rw [← allI_plain (fun b => g153_0 b || g154_0 b) r 1]
        refine allI_congr r 1 fun j x hj => ?_
        have : (j == 0) = false := by simp; omega
        simp only [ok116, this, hs, hd, Bool.not_false, Bool.true_and]
      have h0 : ok116 0 c = g153_0 c := by simp [ok116, hs]
      simp only [allI, hr, h0, List.all_cons, List.getD_cons_zero]
      cases g153_0 c <;> simp
  · simp [h1]

theorem index_one (c : UInt8) : ∀ s : List UInt8, Lib.index s [c] = Lib.indexByte s c
  | [] => rfl
  | b :: l => by
    have e : (List.isPrefixOf [c] (b :: l)) = (b == c) := by
      simp only [List.isPrefixOf, Bool.and_true]
      exact Bool.beq_comm
    rw [Lib.index, Lib.indexByte, index_one c l, e]

theorem contains_one (s : List UInt8) (c : UInt8) : Lib.contains s [c] = s.contains c := by
  rw [Lib.contains_iff_indexByte, Lib.contains, index_one]

theorem contains_nl (s : ByteArray) : (!g82_0 s (ByteArray.mk #[10])) = (bytesOf s).all fun b => !(b == 10) := by
  unfold g82_0
  rw [show (ByteArray.mk #[10]).data.toList = [10] from rfl, contains_one]
  show (!s.data.toList.contains 10) = ((s.data.toList.map fun b => (b.toNat : Int)).all fun b => !(b == 10))
  induction s.data.toList with
  | nil => rfl
  | cons c r ih =>
    rw [List.contains_cons, Bool.not_or, ih, List.map_cons, List.all_cons]
    congr 2
    by_cases h : c = 10
    · subst h; rfl
    · have h1 : ((10 : UInt8) == c) = false := by simp; exact fun e => h e.symm
      have h2 : ((c.toNat : Int) == 10) = false := by
        rw [beq_eq_false_iff_ne]
        intro e
        exact h (UInt8.toNat_inj.1 (by show c.toNat = 10; omega))
      rw [h1, h2]

theorem block_eq (x : ByteArray × ByteArray × ByteArray × Unit) : g84_0 x = g105_0 x := by
  obtain ⟨a, b, t, u⟩ := x
  unfold g84_0 g105_0
  simp only [name_eq, ← contains_nl]
  have hc : decide ((t.size : Int) ≤ 400) = decide (t.size ≤ 400) := by
    congr 1; exact propext ⟨fun h => by omega, fun h => by omega⟩
  rw [hc]
  cases g131_0 a <;> cases g131_0 b <;> cases decide (t.size ≤ 400) <;> cases g82_0 t (ByteArray.mk #[10]) <;> rfl

end Go.Proofs.Ytjkeinpcphkfbaa

/- A law that says how functions of the program and of the specification hang together. -/
set_option linter.unusedVariables false
set_option linter.unusedSimpArgs false
set_option maxRecDepth 100000
namespace Go.Proofs.Ytjkeinpcphkfbaa
open Go Go.Am Go.Proofs

theorem nan (s : ByteArray) : g136_0 s = false := by simp [g136_0]

theorem cmp_str (a b : ByteArray) : g118_0 a b = if Op.bytesLess (ByteArray.toList a) (ByteArray.toList b) = true then -1 else if (ByteArray.toList a == ByteArray.toList b) = true then 0 else 1 := by
  unfold g118_0
  simp only [nan, Bool.false_eq_true, if_false]
  cases Op.bytesLess (ByteArray.toList a) (ByteArray.toList b) <;> cases (ByteArray.toList a == ByteArray.toList b) <;> rfl

theorem before_cmp (a b : ByteArray × ByteArray × ByteArray × Unit) : (!decide (g85_0 a b ≥ 0)) = g115_0 a b := by
  unfold g85_0 g115_0
  simp only [g117_0, cmp_str]
  cases Op.bytesLess (ByteArray.toList a.1) (ByteArray.toList b.1) <;> cases (ByteArray.toList a.1 == ByteArray.toList b.1) <;> cases Op.bytesLess (ByteArray.toList a.2.1) (ByteArray.toList b.2.1) <;> cases (ByteArray.toList a.2.1 == ByteArray.toList b.2.1) <;> decide

theorem blocks_eq (x : List (ByteArray × ByteArray × ByteArray × Unit)) : g37_0 x = g83_0 x := by
  unfold g37_0 g83_0
  congr 1
  refine allI_congr x 0 fun j y _ => ?_
  unfold ok37 ok83
  rw [block_eq, before_cmp]

end Go.Proofs.Ytjkeinpcphkfbaa

/- A law that says how functions of the program and of the specification hang together. -/
set_option linter.unusedVariables false
set_option linter.unusedSimpArgs false
set_option maxRecDepth 100000
namespace Go.Proofs.Ytjkeinpcphkfbaa
open Go Go.Am Go.Proofs

theorem before_iff (a b : (ByteArray × ByteArray × ByteArray × Unit)) : g115_0 a b = true ↔ sless a.1 b.1 = true ∨ (a.1 = b.1 ∧ sless a.2.1 b.2.1 = true) := by
  unfold g115_0 sless
  have e := bytes_eq a.1 b.1
  cases h1 : Op.bytesLess (ByteArray.toList a.1) (ByteArray.toList b.1) with
  | true => simp
  | false =>
    cases h2 : (ByteArray.toList a.1 == ByteArray.toList b.1) with
    | true => rw [h2] at e; simp [e.1 rfl]
    | false =>
      rw [h2] at e
      have : a.1 ≠ b.1 := fun h => by have := e.2 h; cases this
      simp [this]

theorem before_trans {a b c : (ByteArray × ByteArray × ByteArray × Unit)} (h1 : g115_0 a b = true) (h2 : g115_0 b c = true) : g115_0 a c = true := by
  rw [before_iff] at *
  rcases h1 with h1 | ⟨e1, h1⟩
  · rcases h2 with h2 | ⟨e2, h2⟩
    · exact .inl (sless_trans h1 h2)
    · exact .inl (by rw [← e2]; exact h1)
  · rcases h2 with h2 | ⟨e2, h2⟩
    · exact .inl (by rw [e1]; exact h2)
    · exact .inr ⟨e1.trans e2, sless_trans h1 h2⟩

/-- Two blocks of one kind and name. -/
def twins (a b : (ByteArray × ByteArray × ByteArray × Unit)) : Prop := a.1 = b.1 ∧ a.2.1 = b.2.1

theorem before_twins {a b : (ByteArray × ByteArray × ByteArray × Unit)} (h : twins a b) : g115_0 a b = false := by
  rw [Bool.eq_false_iff]
  intro hb
  rw [before_iff, h.1, h.2, sless_irrefl, sless_irrefl] at hb
  simp at hb

theorem before_left {a b c : (ByteArray × ByteArray × ByteArray × Unit)} (h : twins b c) (hb : g115_0 a b = true) : g115_0 a c = true := by
  rw [before_iff] at *
  rw [← h.1, ← h.2]
  exact hb

theorem before_tri {a b : (ByteArray × ByteArray × ByteArray × Unit)} (h1 : g115_0 a b = false) (h2 : ¬ twins a b) : g115_0 b a = true := by
  rw [Bool.eq_false_iff, ne_eq, before_iff, not_or] at h1
  rw [before_iff]
  cases h3 : sless b.1 a.1 with
  | true => exact .inl rfl
  | false =>
    have e : a.1 = b.1 := sless_tri (Bool.eq_false_iff.2 h1.1) h3
    refine .inr ⟨e.symm, ?_⟩
    cases h4 : sless b.2.1 a.2.1 with
    | true => rfl
    | false =>
      exfalso
      refine h2 ⟨e, sless_tri (Bool.eq_false_iff.2 fun h => h1.2 ⟨e, h⟩) h4⟩

theorem cmp_lt (a b : (ByteArray × ByteArray × ByteArray × Unit)) : decide (g85_0 a b < 0) = g115_0 a b := by
  rw [← before_cmp]
  by_cases h : g85_0 a b < 0
  · have : ¬ g85_0 a b ≥ 0 := by omega
    simp [h]
  · have : g85_0 a b ≥ 0 := by omega
    simp [h, this]

theorem cmp_eq (a b : (ByteArray × ByteArray × ByteArray × Unit)) : (g85_0 a b == 0) = true ↔ twins a b := by
  unfold twins g85_0
  simp only [g117_0, cmp_str]
  rw [← bytes_eq, ← bytes_eq]
  have irr : ∀ s t : ByteArray, (ByteArray.toList s == ByteArray.toList t) = true → Op.bytesLess (ByteArray.toList s) (ByteArray.toList t) = false := fun s t h => by
    rw [(bytes_eq s t).1 h]; exact bl_irrefl _
  cases h1 : (ByteArray.toList a.1 == ByteArray.toList b.1) with
  | true =>
    rw [irr _ _ h1]
    cases h2 : (ByteArray.toList a.2.1 == ByteArray.toList b.2.1) with
    | true => rw [irr _ _ h2]; decide
    | false => cases Op.bytesLess (ByteArray.toList a.2.1) (ByteArray.toList b.2.1) <;> decide
  | false => cases Op.bytesLess (ByteArray.toList a.1) (ByteArray.toList b.1) <;> simp

/-- The blocks of a valid list rise. -/
theorem allI_get {α : Type} {q : Nat → α → Bool} : ∀ {l : List α} {i : Nat}, allI q i l = true → ∀ (j : Nat) (h : j < l.length), q (i + j) l[j] = true
  | x :: r, i, h, j, hj => by
    simp only [allI, Bool.and_eq_true] at h
    cases j with
    | zero => exact h.1
    | succ j =>
      have := allI_get h.2 j (by simpa using hj)
      rw [show i + (j + 1) = i + 1 + j from by omega]
      exact this
  | [], _, _, j, hj => by cases hj

theorem sorted (x : List (ByteArray × ByteArray × ByteArray × Unit)) (h : g83_0 x = true) : x.length ≤ 32 ∧ ∀ i j : Nat, i < j → (hj : j < x.length) → g115_0 (x.getD i (ByteArray.empty, ByteArray.empty, ByteArray.empty, ())) (x.getD j (ByteArray.empty, ByteArray.empty, ByteArray.empty, ())) = true := by
  unfold g83_0 at h
  simp only [Bool.and_eq_true, decide_eq_true_eq] at h
  refine ⟨h.2, ?_⟩
  have step : ∀ j : Nat, j + 1 < x.length → g115_0 (x.getD j (ByteArray.empty, ByteArray.empty, ByteArray.empty, ())) (x.getD (j + 1) (ByteArray.empty, ByteArray.empty, ByteArray.empty, ())) = true := fun j hj => by
    have := allI_get h.1 (j + 1) hj
    rw [Nat.zero_add] at this
    unfold ok83 at this
    simp only [Bool.and_eq_true, Nat.add_sub_cancel] at this
    rw [getD_lt x (j + 1) _ hj]
    simpa using this.2
  intro i j hij
  induction j with
  | zero => omega
  | succ j ih =>
    intro hj
    rcases Nat.lt_or_ge i j with hlt | hge
    · exact before_trans (ih hlt (by omega)) (step j hj)
    · have : i = j := by omega
      subst this
      exact step i hj

end Go.Proofs.Ytjkeinpcphkfbaa

/- A law that says how functions of the program and of the specification hang together. -/
set_option linter.unusedVariables false
set_option linter.unusedSimpArgs false
set_option maxRecDepth 100000
namespace Go.Proofs.Ytjkeinpcphkfbaa
open Go Go.Am Go.Proofs

theorem bsearch_at (p : Nat → Bool) (k N : Nat) (hk : ∀ i, i < N → p i = decide (i < k)) : ∀ (m i j : Nat), j - i < m → i ≤ k → k ≤ j → j ≤ N → bsearch p m i j = k
  | 0, i, j, h, _, _, _ => by omega
  | m + 1, i, j, h, h1, h2, h3 => by
    simp only [bsearch]
    split
    · rw [hk _ (by omega)]
      split
      · rename_i h4
        simp only [decide_eq_true_eq] at h4
        exact bsearch_at p k N hk m _ _ (by omega) (by omega) h2 h3
      · rename_i h4
        simp only [decide_eq_true_eq] at h4
        exact bsearch_at p k N hk m _ _ (by omega) h1 (by omega) (by omega)
    · omega

theorem cut_at (p : Nat → Bool) : ∀ N : Nat, (∀ i j, i < j → j < N → p j = true → p i = true) → ∃ k, k ≤ N ∧ ∀ i, i < N → p i = decide (i < k)
  | 0, _ => ⟨0, Nat.le_refl _, fun i h => by omega⟩
  | N + 1, hm => by
    obtain ⟨k, h1, h2⟩ := cut_at p N (fun i j hij hj => hm i j hij (by omega))
    cases hp : p N with
    | true =>
      refine ⟨N + 1, Nat.le_refl _, fun i hi => ?_⟩
      rw [decide_eq_true hi]
      rcases Nat.lt_or_ge i N with h | h
      · exact hm i N h (by omega) hp
      · rw [show i = N from by omega]; exact hp
    | false =>
      refine ⟨k, by omega, fun i hi => ?_⟩
      rcases Nat.lt_or_ge i N with h | h
      · exact h2 i h
      · rw [show i = N from by omega, hp, decide_eq_false (by omega)]

/-- Where a block stands, or has to. -/
theorem place (x : List (ByteArray × ByteArray × ByteArray × Unit)) (t : (ByteArray × ByteArray × ByteArray × Unit)) (h : g83_0 x = true) :
    k126c85 x t ≤ x.length ∧
    (∀ i, i < k126c85 x t → g115_0 (x.getD i (ByteArray.empty, ByteArray.empty, ByteArray.empty, ())) t = true) ∧
    (∀ i, k126c85 x t ≤ i → i < x.length → g115_0 (x.getD i (ByteArray.empty, ByteArray.empty, ByteArray.empty, ())) t = false) := by
  obtain ⟨_, hs⟩ := sorted x h
  have hp : ∀ i, p126c85 x t i = g115_0 (x.getD i (ByteArray.empty, ByteArray.empty, ByteArray.empty, ())) t := fun i => cmp_lt _ _
  obtain ⟨k, hk1, hk2⟩ := cut_at (p126c85 x t) x.length (fun i j hij hj h => by
    rw [hp] at h ⊢
    exact before_trans (hs i j hij hj) h)
  have e : k126c85 x t = k := bsearch_at _ k x.length hk2 _ _ _ (by omega) (by omega) hk1 (Nat.le_refl _)
  rw [e]
  refine ⟨hk1, fun i hi => ?_, fun i hi hl => ?_⟩
  · rw [← hp, hk2 i (by omega)]; simpa using hi
  · rw [← hp, hk2 i hl]; simpa using hi

theorem find_eq (x : List (ByteArray × ByteArray × ByteArray × Unit)) (k n : ByteArray) (h : g83_0 x = true) :
    (g94_1 x (k, n, ByteArray.empty, ()) = true → 0 ≤ g94_0 x (k, n, ByteArray.empty, ()) ∧ g94_0 x (k, n, ByteArray.empty, ()) < x.length) ∧
    g93_0 x k n = if g94_1 x (k, n, ByteArray.empty, ()) = true then g94_0 x (k, n, ByteArray.empty, ()) else -1 := by
  obtain ⟨hl, hs⟩ := sorted x h
  obtain ⟨p1, p2, p3⟩ := place x (k, n, ByteArray.empty, ()) h
  unfold g94_1 g94_0 g126c85_1 g126c85_0 f126c85 g93_0
  generalize k126c85 x (k, n, ByteArray.empty, ()) = K at *
  have hq : ∀ b : (ByteArray × ByteArray × ByteArray × Unit), q93 k n b = true ↔ twins b (k, n, ByteArray.empty, ()) := fun b => by
    unfold q93 twins
    rw [Bool.and_eq_true, bytes_eq, bytes_eq]
  have hbefore : ∀ i, i < K → q93 k n (x.getD i (ByteArray.empty, ByteArray.empty, ByteArray.empty, ())) = false := fun i hi => by
    rw [Bool.eq_false_iff]
    intro hh
    have := before_twins ((hq _).1 hh)
    rw [p2 i hi] at this
    cases this
  by_cases hK : K < x.length
  · simp only [if_pos hK]
    by_cases hf : (g85_0 (x.getD K (ByteArray.empty, ByteArray.empty, ByteArray.empty, ())) (k, n, ByteArray.empty, ()) == 0) = true
    · rw [if_pos hf]
      refine ⟨fun _ => ⟨by omega, by omega⟩, ?_⟩
      have : x.findIdx? (q93 k n) = some K := by
        rw [List.findIdx?_eq_some_iff_getElem]
        refine ⟨hK, ?_, fun j hj => ?_⟩
        · rw [← getD_lt x K (ByteArray.empty, ByteArray.empty, ByteArray.empty, ()) hK]; exact (hq _).2 ((cmp_eq _ _).1 hf)
        · have := hbefore j hj
          rw [getD_lt x j _ (by omega)] at this
          simp [this]
      rw [this]
      rfl
    · rw [if_neg hf]
      refine ⟨fun h => absurd h hf, ?_⟩
      have : x.findIdx? (q93 k n) = none := by
        rw [List.findIdx?_eq_none_iff]
        intro b hb
        obtain ⟨i, hi, rfl⟩ := List.mem_iff_getElem.1 hb
        rw [← getD_lt x i (ByteArray.empty, ByteArray.empty, ByteArray.empty, ()) hi]
        rcases Nat.lt_or_ge i K with h1 | h1
        · exact hbefore i h1
        · rw [Bool.eq_false_iff]
          intro hh
          have ht := (hq _).1 hh
          rcases Nat.lt_or_ge K i with h2 | h2
          · have := before_left ht (hs K i h2 hi)
            rw [p3 K (Nat.le_refl _) hK] at this
            cases this
          · have : i = K := by omega
            subst this
            exact hf ((cmp_eq _ _).2 ht)
      rw [this]
      rfl
  · simp only [if_neg hK, Bool.false_eq_true, if_false]
    refine ⟨fun h => h.elim, ?_⟩
    have : x.findIdx? (q93 k n) = none := by
      rw [List.findIdx?_eq_none_iff]
      intro b hb
      obtain ⟨i, hi, rfl⟩ := List.mem_iff_getElem.1 hb
      rw [← getD_lt x i (ByteArray.empty, ByteArray.empty, ByteArray.empty, ()) hi]
      exact hbefore i (by omega)
    rw [this]
    rfl

theorem named_eq (x : List (ByteArray × ByteArray × ByteArray × Unit)) (k n : ByteArray) : P44 x k n ∧ P43 x k n ∧ g44_0 x k n = g43_0 x k n ∧ g44_1 x k n = g43_1 x k n := by
  unfold P44 P43 g44_0 g43_0 g44_1 g43_1
  rw [blocks_eq]
  cases h : g83_0 x with
  | false => simp
  | true =>
    obtain ⟨f1, f2⟩ := find_eq x k n h
    obtain ⟨hl, _⟩ := sorted x h
    have hp : P94 x (k, n, ByteArray.empty, ()) := ⟨by show x.length ≤ 4611686018427387903; omega, trivial⟩
    rw [f2]
    cases h1 : g94_1 x (k, n, ByteArray.empty, ()) with
    | false => simp [hp]
    | true =>
      obtain ⟨a, b⟩ := f1 h1
      have c : ¬ g94_0 x (k, n, ByteArray.empty, ()) < 0 := by omega
      simp only [if_true, Bool.not_true, Bool.false_eq_true, if_false, hp, a, b, c, decide_false, true_and, and_self]

end Go.Proofs.Ytjkeinpcphkfbaa

/- The plain law of FnExactBlockNamed. -/
set_option linter.unusedVariables false
set_option linter.unusedSimpArgs false
set_option maxRecDepth 100000
namespace Go.Proofs.Ytjkeinpcphkfbaa
open Go Go.Am Go.Proofs

theorem law8 (x : List (ByteArray × ByteArray × ByteArray × Unit)) (k n : ByteArray) (hw : Wf (.sl (.cons .str (.cons .str (.cons .str .unit)))) x) (hk : Wf .str k) (hn : Wf .str n) : P8 x k n ∧ g8_0 x k n = true := by
  unfold P8 g8_0
  by_cases h0 : (k.size : Int) > 1048576
  · simp only [h0, decide_true, if_true, and_self]
  by_cases h1 : (n.size : Int) > 1048576
  · simp only [h0, h1, decide_true, decide_false, Bool.false_eq_true, if_false, if_true, and_self]
  by_cases h : g34_0 x 1048576 < 0
  · simp only [h0, h1, h, decide_true, decide_false, Bool.false_eq_true, if_false, if_true, and_true]
    exact (show (0 : Int) ≤ 1048576 from by decide)
  · have hs := g34_le x 1048576 (by decide) (by decide) hw h
    have hp : P36 x := by
      show 48 * (x.length : Int) ≤ 281474976710656
      omega
    have hz : P34 x 1048576 := (show (0 : Int) ≤ 1048576 from by decide)
    obtain ⟨p1, p2, e0, e1⟩ := named_eq x k n
    simp only [h0, h1, h, decide_false, Bool.false_eq_true, if_false, g36_0, e0, e1, p1, p2, g38_0, decide_true, Bool.not_true, bne_self_eq_false, beq_self_eq_true, hp, hz, true_and, and_self]

end Go.Proofs.Ytjkeinpcphkfbaa
